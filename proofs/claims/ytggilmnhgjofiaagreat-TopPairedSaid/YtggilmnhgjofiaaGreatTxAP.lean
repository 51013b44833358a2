/- Part TxAP of the proofs about the benches of the accordion maker: see the last text of the claim for what is proved. -/
import Derived.Test.YtggilmnhgjofiaaGreatTxAO
set_option linter.unusedVariables false
set_option linter.unusedSimpArgs false
set_option linter.unnecessarySimpa false
set_option linter.constructorNameAsVariable false

namespace Go.Abs
open Go
section
variable {P : Program} {T : TT} {r : Option Nat} {m : Nat} {ops : Array Oper} {Q : AX -> St -> Prop}
variable {F : Fz} {μ : Mu} {s : St} {L : List Nat} {und pend : List (Nat × PK)} {listed : Array Bool} {a : Act} {w : World}
theorem Zmm {H : List Blk} (h : HR F μ H w) {x : Blk} (hb : BFr x) (hno : x.obj = none) : HR F μ (H ++ [x]) w /\ Post F μ H w F μ (H ++ [x]) w := by
 have hn : μ H.length = none := h.dom _ (Nat.le_refl _);have get : ∀ k, k ≠ H.length -> (H ++ [x])[k]? = H[k]? := fun k hk => by
  by_cases hlt : k < H.length
  ·rw [List.getElem?_append_left hlt]
  ·rw [List.getElem?_eq_none (by simp; omega), List.getElem?_eq_none (by omega)]
 have nf : ∀ b, ¬ Z40 μ H.length b := fun b hf => by
  rcases hf with ⟨m, hm⟩ | hi
  ·rw [hn] at hm; cases hm
  ·exact h.non _ hn b hi
 have := Z5e (μ' := μ) (w' := w) (H' := H ++ [x]) (fun j => j = H.length) h (by simp) get (fun _ _ => rfl) (fun _ _ _ => Iff.rfl) (fun _ _ _ e => e) (Nat.le_refl _) rfl rfl rfl (fun _ _ _ => rfl)
  (fun k b hk _ hf => by subst hk; exact absurd hf (nf b)) (fun k1 k2 b h1 h2 _ _ _ _ => h1.trans h2.symm) (fun k hk _ => by subst hk; exact hn) (fun _ k sz es hk _ hne => by subst hk; exact absurd hn hne)
  (fun k y hk _ b => by subst hk; exact h.non _ hn b) (fun _ k y hk hy _ => by subst hk; rw [Z19 (x := x) (by simp), hno] at hy; cases hy) (fun k hk _ => by subst hk; exact h.non _ hn) (fun k y hk hy => by
   subst hk; simp at hy; subst hy; exact hb)
 exact ⟨this.1, this.2.1⟩
theorem Zrs {A : Ar} {s1 : St} {x : Blk} {d : D} {k : Nat} {op : Op} (h : Z5g A T s1 (fun y mk => y = x /\ mk k = d) op) : x.obj = none := by
 cases op <;> simp only [Z5g, Zpd, Zpe] at h
 all_goals repeat' (split at h)
 all_goals first
  | exact h.elim
  | exact h.2.2.elim
  | (obtain ⟨rfl, -⟩ := h; rfl)
  | (obtain ⟨-, -, rfl, -⟩ := h; rfl)
theorem Zuk {A : Ar} {s1 : St} {x : Blk} {d : D} {k : Nat} {o : Oper} (h : Zh ops s1 o (fun s' => Z5g A T s' (fun y mk => y = x /\ mk k = d) o.op) (fun _ => False)) : x.obj = none := by
 unfold Zh at h
 repeat' (split at h)
 all_goals first
  | exact Zrs h
  | exact h.elim
theorem Z5o (e : List (Nat × D)) (dst : Option Nat) (d : D) (n : Nat) : Z1c (Z9c e dst d) n = if dst = some n then some d else Z1c e n := by
 cases dst with
 | none => simp [Z9c]
 | some t => simp only [Z9c, Z5n, Option.some.injEq]
theorem Zce {dst : Option Nat} {d : D} {H : List Blk} {ds : List AD} {ts : List Nat} (h : ∀ t, dst = some t -> t ∉ ts) : ((s.step dst d H ds).only ts).env = (s.only ts).env :=
 Zk5 fun t ht => by
  show Z1c (Z9c s.env dst d) t = _;rw [Z5o, if_neg (fun e => h t e ht)]
theorem Zgy {dst : Option Nat} {d : D} {ts : List Nat} (h : ∀ t, dst = some t -> t ∉ ts) : (s.step dst d s.H s.dfs).only ts = s.only ts := by
 have := Zce (s := s) (d := d) (H := s.H) (ds := s.dfs) h;simp only [St.only, St.step] at this ⊢;rw [this]
theorem Zul {u : Nat × PK} {o : Oper} {d : D} (hw : ∀ o' t, ops[u.1]? = some o' -> o.dst = some t -> o'.dst ≠ some t /\ t ∉ o'.looksAt ops) (h : POk ar T ops s u) : POk ar T ops (s.step o.dst d s.H s.dfs) u := by
 obtain ⟨o', h1, h2, h3, h4⟩ := h.out;have he : (s.step o.dst d s.H s.dfs).only (o'.looksAt ops) = s.only (o'.looksAt ops) := Zgy fun t ht => (hw o' t h1 ht).2;refine ⟨o', h1, h2, fun t ht => ?_, ?_⟩
 ·show Z1c (Z9c s.env o.dst d) t = _;rw [Z5o, if_neg (fun e => (hw o' t h1 e).1 ht)]; exact h3 t ht
 ·obtain ⟨i, pk⟩ := u
  cases pk with
  | val d' => simp only at h4 ⊢; rw [he]; exact h4
  | alc k x d' => simp only at h4 ⊢; rw [he]; exact h4
theorem Zk7 {A : Ar} {s1 s2 : St} (h : s2.env = s1.env) {K : Blk -> (Nat -> D) -> Prop} (op : Op) : Z5g A T s2 K op = Z5g A T s1 K op := by
 cases op <;> simp only [Z5g, h]
theorem Zgz {s1 s2 : St} (h : s2.env = s1.env) {o : Oper} {K : Blk -> (Nat -> D) -> Prop} (hg : Zh ops s1 o (fun s' => Z5g ar T s' K o.op) (fun _ => False)) : Zh ops s2 o (fun s' => Z5g ar T s' K o.op) (fun _ => False) := by
 unfold Zh at hg ⊢;rw [h]
 split at hg
 ·rw [Zk7 h]; exact hg
 ·split at hg
  ·exact hg.elim
  ·split at hg
   ·exact hg.elim
   ·split at hg
    ·split at hg <;> split at hg <;> first | exact hg.elim | (rw [Zk7 (s1 := { s1 with env := Z6j s1.env _ _ }) (by rfl)]; exact hg)
    ·exact hg.elim
    ·exact hg.elim
theorem RD.more (h : RD T m ops F μ s (L) und listed a w) {i : Nat} {L' : List Nat} (hL : L = i :: L') {o : Oper} (ho : ops[i]? = some o) (hsub : ∀ u ∈ und, u ∈ pend) (hl : LooksOk ops o pend) (hw : WritesOk ops o pend) (hs : ∀ t, o.dst = some t -> t ∉ o.looksAt ops)
  {H' : List Blk} {d : D} {pk : PK} (hr : HR F μ H' w) (hob : ∀ k y, Z13 s.H k = some y -> Z13 H' k = some y) (hlen : m <= H'.length) (hok : ∀ u ∈ (i, pk) :: und, POk ar T ops (s.step o.dst d H' s.dfs) u)
  (hpr : ∀ k x d, pk = .alc k x d -> μ k = none /\ m <= k) (hks : ∀ k x d, pk = .alc k x d -> ∀ u ∈ und, ∀ x' d', u.2 ≠ .alc k x' d') : RD T m ops F μ (s.step o.dst d H' s.dfs) L' ((i, pk) :: und) listed a w := by
 subst hL;have hnd := h.nd;refine ⟨hr, fun t d0 ht hun => ?_, h.nt, h.dfs.mono (fun _ _ _ e => e) (fun _ _ e => e) (fun k hk => ⟨hob k _ hk, fun _ e => e⟩), hlen, h.size, fun j => ?_, ?_, hok, fun u hu u' hu' o1 o2 t h1 h2 h3 h4 => ?_, fun u hu u' hu' hne o1 o2 t h1 h2 h3 => ?_, fun u hu k x d0 e => ?_, fun u hu u' hu' k x d0 x' d0' e e' => ?_⟩
 ·have hne := hun (i, pk) (by simp) o ho
  change Z1c (Z9c s.env o.dst d) t = some d0 at ht
  rw [Z5o, if_neg hne] at ht;exact h.env t d0 ht fun u hu => hun u (by simp [hu])
 ·rw [h.opn j];constructor
  ·rintro (hj | ⟨u, hu, e⟩)
   ·rcases List.mem_cons.1 hj with rfl | hj
    ·exact .inr ⟨(j, pk), by simp, rfl⟩
    ·exact .inl hj
   ·exact .inr ⟨u, by simp [hu], e⟩
  ·rintro (hj | ⟨u, hu, e⟩)
   ·exact .inl (by simp [hj])
   ·rcases List.mem_cons.1 hu with rfl | hu
    ·exact .inl (by simp [<- e])
    ·exact .inr ⟨u, hu, e⟩
 ·rw [List.map_cons];exact (List.perm_middle.nodup_iff).2 (by simpa using hnd)
 ·rcases List.mem_cons.1 hu with rfl | hu <;> rcases List.mem_cons.1 hu' with rfl | hu'
  ·simp only at h1 h2;rw [ho] at h1 h2; cases h1; cases h2;exact absurd h4 (hs t h3)
  ·simp only at h1;rw [ho] at h1; cases h1;exact hl.out u' (hsub u' hu') o2 t h2 h3 h4
  ·simp only at h2;rw [ho] at h2; cases h2;exact absurd h4 (hw.out u (hsub u hu) o1 t h1 h3).2
  ·exact h.cl u hu u' hu' o1 o2 t h1 h2 h3 h4
 ·rcases List.mem_cons.1 hu with rfl | hu <;> rcases List.mem_cons.1 hu' with rfl | hu'
  ·exact absurd rfl hne
  ·simp only at h1;rw [ho] at h1; cases h1;exact (hw.out u' (hsub u' hu') o2 t h2 h3).1
  ·simp only at h2;rw [ho] at h2; cases h2;intro e;exact (hw.out u (hsub u hu) o1 t h1 e).1 h3
  ·exact h.ds u hu u' hu' hne o1 o2 t h1 h2 h3
 ·rcases List.mem_cons.1 hu with rfl | hu
  ·exact hpr k x d0 e
  ·exact h.pr u hu k x d0 e
 ·rcases List.mem_cons.1 hu with rfl | hu <;> rcases List.mem_cons.1 hu' with rfl | hu'
  ·rfl
  ·exact absurd e' (hks k x d0 e u' hu' x' d0')
  ·exact absurd e (hks k x' d0' e' u hu x d0)
  ·exact h.ks u hu u' hu' k x d0 x' d0' e e'
theorem RD.eff (h : RD T m ops F μ s L und listed a w) {i : Nat} {L' : List Nat} (hL : L = i :: L') {o : Oper} (hd : Z36 s.nt o.dst = true) {F' : Fz} {μ' : Mu} {H' : List Blk} {w' : World} {d : D} {v : Value} {ds : List AD} {dv : List Deferred} (hs : Stp F μ s.H w F' μ' H' w') (hds : ADR F' μ' H' ds dv) (hv : VR F' μ' d v)
  (hok : ∀ u ∈ und, POk ar T ops (s.step o.dst d H' ds) u) : RD T m ops F' μ' (s.step o.dst d H' ds) L' und (listed.setIfInBounds i true) ({ a with defers := dv }.put o.dst v) w' := by
 subst hL;have hnd := h.nd;rw [List.cons_append, List.nodup_cons] at hnd;refine ⟨hs.hr, fun t d0 ht hun => ?_, by rw [Zk6]; exact h.nt, by rw [Zo3]; exact hds, Nat.le_trans h.len hs.len, by rw [Array.size_setIfInBounds]; exact h.size, fun j => ?_, hnd.2, hok, h.cl, h.ds, fun u hu k x d0 e => ?_, h.ks⟩
 ·rw [Zo2]
  change Z1c (Z9c s.env o.dst d) t = some d0 at ht
  rw [Z5o] at ht
  split at ht
  ·rename_i e; cases ht
   exact ⟨v, by rw [if_pos ⟨e, by show t < a.tmps.size; rw [h.nt]; exact Zrr hd e⟩], hv⟩
  ·rename_i e
   rw [if_neg (fun hh => e hh.1)];obtain ⟨u, h1, h2⟩ := h.env t d0 ht hun;exact ⟨u, h1, hs.vr h.hr h2⟩
 ·rw [Array.getElem?_setIfInBounds]
  by_cases e : i = j
  ·subst e;rw [if_pos rfl];constructor
   ·intro hh; split at hh <;> cases hh
   ·rintro (hL | ⟨u, hu, e⟩)
    ·exact absurd (List.mem_append.2 (.inl hL)) hnd.1
    ·exact absurd (List.mem_append.2 (.inr (List.mem_map.2 ⟨u, hu, e⟩))) hnd.1
  ·rw [if_neg e, h.opn j];refine or_congr_left ⟨fun hj => ?_, fun hj => by simp [hj]⟩;rcases List.mem_cons.1 hj with hj | hj
   ·exact absurd hj.symm e
   ·exact hj
 ·obtain ⟨h1, h2⟩ := h.pr u hu k x d0 e;obtain ⟨o', -, -, -, h4⟩ := (h.ok u hu).out;rw [e] at h4;have h5 := h4.2.1;rw [Z1u] at h5;exact ⟨by rw [hs.same k (List.getElem?_eq_some_iff.1 h5).1]; exact h1, h2⟩
theorem RD.swap {i j : Nat} {L : List Nat} (h : RD T m ops F μ s (i :: j :: L) und listed a w) : RD T m ops F μ s (j :: i :: L) und listed a w :=
 ⟨h.hr, h.env, h.nt, h.dfs, h.len, h.size, fun k => by
  rw [h.opn k]
  refine or_congr_left ?_
  simp only [List.mem_cons]
  constructor <;> rintro (e | e | e) <;> simp [e], by
  have := h.nd
  simp only [List.cons_append] at this ⊢
  exact (List.Perm.swap _ _ _).nodup_iff.1 this, h.ok, h.cl, h.ds, h.pr, h.ks⟩
theorem Zk8 (hT : TOK P T) (hE : ∀ (i : Nat) (o : Oper), ops[i]? = some o -> ∀ e ∈ ons o, e < i) {L : List Nat} {pend : List (Nat × PK)} {s : St} (hD : DrawA P T r m ops Q L pend s) :
  ∀ (und : List (Nat × PK)), (∀ u ∈ und, u ∈ pend) -> ∀ (F : Fz) (μ : Mu) (listed : Array Bool) (a : Act) (w : World), RD T m ops F μ s L und listed a w -> anyZ r P ops (Z4f F μ s.H w m Q) (L.length + und.length) listed a w := by
 induction hD with
 | @done pend s hq =>
  intro und
  generalize hn : und.length = n
  induction n using Nat.strongRecOn generalizing und with
  | _ n ih =>
   intro hsub F μ listed a w hrd
   cases n with
   | zero =>
    have hu : und = [] := by cases und with
     | nil => rfl
     | cons => simp at hn
    subst hu;refine ⟨?_, fun n => Z4f.ofAt (n := n) (Z4f.here (x := .normal) ⟨hrd.hr.at n, ⟨fun t d ht => hrd.env t d ht (fun u hu => by simp at hu), hrd.nt, hrd.dfs⟩, hrd.len⟩ trivial hq)⟩
    cases hr : Region.ready .any ops listed with
    | nil => rfl
    | cons j js =>
     have := hrd.open_of_ready (i := j) (by rw [hr]; simp);simp at this
   | succ n =>
    have hne : ∃ i, i ∈ ([] : List Nat) ∨ ∃ u ∈ und, u.1 = i := by
     cases und with
     | nil => simp at hn
     | cons u us => exact ⟨u.1, .inr ⟨u, by simp, rfl⟩⟩
    refine ⟨fun e => absurd e (hrd.progress hE hne), fun j hj n0 => ?_⟩;refine Z223 n0 ?_;have hrd := hrd.at n0
    revert hrd
    generalize w.at n0 = w
    intro hrd;rcases hrd.open_of_ready hj with h | ⟨u, hu, rfl⟩
    ·simp at h
    ·have hnd := hrd.nd;rw [List.nil_append] at hnd;have hlen := Z6k hnd (List.mem_map.2 ⟨u, hu, rfl⟩);have := Zfg (Q := Q) (r := r) hT hrd hu hj (fun F μ listed a w h => by
      rw [List.length_nil, Nat.zero_add]
      have := ih (Z3p und u.1).length (by omega) (Z3p und u.1) rfl (fun x hx => hsub x (Z1x.1 hx).1) F μ listed a w h
      rwa [List.length_nil, Nat.zero_add] at this)
     rw [List.length_nil, Nat.zero_add, show (Z3p und u.1).length = n by omega] at this;have e0 : Nat.add 0 n = n := Nat.zero_add n;simp only [List.length_nil, e0];exact this
 | @val i L pend s o d ho hd hl hw hs hy _ ih =>
  intro und hsub F μ listed a w hrd;have := ih ((i, .val d) :: und) (fun u hu => by
   rcases List.mem_cons.1 hu with rfl | hu
   ·simp
   ·simp [hsub u hu]) F μ listed a w (hrd.more rfl ho hsub hl hw hs hrd.hr (fun _ _ e => e) hrd.len (fun u hu => by
    rcases List.mem_cons.1 hu with rfl | hu
    ·refine ⟨o, ho, hd, fun t ht => ?_, ?_⟩
     ·show Z1c (Z9c s.env o.dst d) t = _
      rw [Z5o, if_pos ht]; rfl
     ·show Z9i ar T ops ((s.step o.dst d s.H s.dfs).only (o.looksAt ops)) o _
      rw [Zgy hs]; exact hy
    ·exact Zul (fun o' t h1 h2 => hw.out u (hsub u hu) o' t h1 h2) (hrd.ok u hu)) (fun k x d e => by cases e) (fun k x d e => by cases e))
  rw [List.length_cons, show L.length + 1 + und.length = L.length + (und.length + 1) by omega];exact this
 | @alc i L pend s o x d ho hd hl hw hs hb hy hp _ ih =>
  intro und hsub F μ listed a w hrd;obtain ⟨r1, r2⟩ := Zmm hrd.hr hb (Zuk hy);have := ih ((i, .alc s.H.length x d) :: und) (fun u hu => by
   rcases List.mem_cons.1 hu with rfl | hu
   ·simp
   ·simp [hsub u hu]) F μ listed a w (hrd.more rfl ho hsub hl hw hs r1 (fun _ _ e => Z41 x e) (by have := hrd.len; simp; omega) (fun u hu => by
    rcases List.mem_cons.1 hu with rfl | hu
    ·refine ⟨o, ho, hd, fun t ht => ?_, ?_⟩
     ·show Z1c (Z9c s.env o.dst d) t = _
      rw [Z5o, if_pos ht]; rfl
     ·refine ⟨?_, by rw [Z1u]; simp [St.step], hb⟩
      have he := Zce (s := s) (dst := o.dst) (d := d) (H := s.H ++ [x]) (ds := s.dfs) (ts := o.looksAt ops) hs
      refine Zgz (s1 := s.only (o.looksAt ops)) he hy
    ·exact hp u (hsub u hu) (hrd.ok u hu)) (fun k x d e => by cases e; exact ⟨hrd.hr.dom _ (Nat.le_refl _), hrd.len⟩) (fun k x' d' e u hu x1 d1 e1 => by
     cases e
     obtain ⟨o', -, -, -, h4⟩ := (hrd.ok u hu).out
     rw [e1] at h4
     have h5 := h4.2.1
     rw [Z1u] at h5
     have := (List.getElem?_eq_some_iff.1 h5).1
     omega))
  rw [List.length_cons, show L.length + 1 + und.length = L.length + (und.length + 1) by omega];exact Z1vw (fun _ _ _ hq => hq.trans r2 (.ob fun _ e => Z41 x e)) _ _ _ _ this
 | @eff i L pend s o K pend' ho hd hl hw hpp hr hk hpin h ih =>
  intro und
  generalize hn : und.length = n
  induction n using Nat.strongRecOn generalizing und with
  | _ n ihn =>
   intro hsub F μ listed a w hrd;rw [List.length_cons, show L.length + 1 + n = (L.length + n) + 1 by omega];refine ⟨fun e => absurd e (hrd.progress hE ⟨i, .inl (by simp)⟩), fun j hj n0 => ?_⟩;refine Z223 n0 ?_;have hrd := hrd.at n0
   revert hrd
   generalize w.at n0 = w
   intro hrd;rcases hrd.open_of_ready hj with hjL | ⟨u, hu, rfl⟩
   ·rcases List.mem_cons.1 hjL with rfl | hjL
    ·have er := hrd.er ho hj (fun u' hu' o' t h1 h2 h3 => hl.out u' (hsub u' hu') o' t h1 h2 h3);have hsub' : ∀ u ∈ und, u ∈ pend' := fun u hu => (hpp u (hsub u hu)).resolve_right fun hin => hrd.pre ho hj _ hin (.inr ⟨u, hu, rfl⟩);unfold op1Z;rw [ho];simp only;obtain ⟨e, he, hc⟩ := Z4m hk er;have er' : ER F μ { s.only (o.looksAt ops) with env := e } a := ⟨fun t d ht => er.env t d (he t d ht), er.nt, er.dfs⟩;rcases hc with ⟨hwt, hkk⟩ | ⟨hwt, hkk⟩
     ·rw [if_pos hwt];refine hkk.out F μ a w hrd.hr er' _ _ (fun F' μ' H' w' ds dv d v q1 qd q2 q3 => ?_) (fun F' μ' H' w' d v q1 q2 q3 => ?_)
      ·have hrd' := hrd.eff rfl hd (o := o) (ds := ds) q1 qd q2 (fun u hu => hpin d H' ds q3 u (hsub' u hu) (hrd.ok u hu));have := ih d H' ds q3 und hsub' F' μ' _ _ w' hrd';rw [hn] at this;exact Z1vw (fun _ _ _ hq => hq.trans q1.post (q1.keep hrd.len)) _ _ _ _ this
      ·exact ⟨F', μ', { env := [], H := H', nt := s.nt, dfs := s.dfs }, .pan d, q1.post, q1.keep hrd.len, ⟨q1.hr, ⟨(fun t d ht => by cases ht), hrd.nt, q1.adr hrd.hr hrd.dfs⟩, Nat.le_trans hrd.len q1.len⟩, ⟨v, rfl, q2⟩, q3 []⟩
     ·rw [if_neg (by rw [hwt]; simp)];have hrd' := hrd.eff rfl hd (o := o) (d := .tup []) (v := undef) (ds := s.dfs) (Stp.refl hrd.hr) hrd.dfs Z5h (fun u hu => hpin _ _ _ hkk u (hsub' u hu) (hrd.ok u hu));have := ih _ _ _ hkk und hsub' F μ _ _ w hrd';rw [hn] at this;exact this
    ·obtain ⟨-, o', ho', -⟩ := mem_ready.1 hj;obtain ⟨e, he1, he2⟩ := hr j hjL o' ho';exact (hrd.pre ho' hj e he1 (.inl (by rcases he2 with rfl | he2 <;> simp [*]))).elim
   ·have hnd := hrd.nd;rw [List.nodup_append] at hnd;have hlen := Z6k hnd.2.1 (List.mem_map.2 ⟨u, hu, rfl⟩);have := Zfg (Q := Q) (r := r) hT hrd hu hj (fun F μ listed a w h => ihn (Z3p und u.1).length (by omega) (Z3p und u.1) rfl (fun x hx => hsub x (Z1x.1 hx).1) F μ listed a w h);rw [List.length_cons, show L.length + 1 + (Z3p und u.1).length = L.length + n by omega] at this;exact this
 | @two i j L pend s o o2 K K2 p p2 ho ho2 hd hd2 hl hl2 hw hw2 hpp hpp2 hr hk hk2 hpin hpin2 h h2 ih ih2 =>
  intro und
  generalize hn : und.length = n
  induction n using Nat.strongRecOn generalizing und with
  | _ n ihn =>
   intro hsub F μ listed a w hrd;have hsw := hrd.swap;rw [List.length_cons, List.length_cons, show L.length + 1 + 1 + n = (L.length + 1 + n) + 1 by omega];refine ⟨fun e => absurd e (hrd.progress hE ⟨i, .inl (by simp)⟩), fun q hj n0 => ?_⟩;refine Z223 n0 ?_;have hrd := hrd.at n0
   revert hrd
   generalize w.at n0 = w
   intro hrd;have hsw := hrd.swap;rcases hrd.open_of_ready hj with hjL | ⟨u, hu, rfl⟩
   ·rcases List.mem_cons.1 hjL with rfl | hjL
    ·clear hsw;have er := hrd.er ho hj (fun u' hu' o' t h1 h2 h3 => hl.out u' (hsub u' hu') o' t h1 h2 h3);have hsub' : ∀ u ∈ und, u ∈ p := fun u hu => (hpp u (hsub u hu)).resolve_right fun hin => hrd.pre ho hj _ hin (.inr ⟨u, hu, rfl⟩);unfold op1Z;rw [ho];simp only;obtain ⟨e, he, hc⟩ := Z4m hk er;have er' : ER F μ { s.only (o.looksAt ops) with env := e } a := ⟨fun t d ht => er.env t d (he t d ht), er.nt, er.dfs⟩;rcases hc with ⟨hwt, hkk⟩ | ⟨hwt, hkk⟩
     ·rw [if_pos hwt];refine hkk.out F μ a w hrd.hr er' _ _ (fun F' μ' H' w' ds dv d v q1 qd q2 q3 => ?_) (fun F' μ' H' w' d v q1 q2 q3 => ?_)
      ·have hrd' := hrd.eff rfl hd (o := o) (ds := ds) q1 qd q2 (fun u hu => hpin d H' ds q3 u (hsub' u hu) (hrd.ok u hu));have := ih d H' ds q3 und hsub' F' μ' _ _ w' hrd';rw [hn, List.length_cons] at this;exact Z1vw (fun _ _ _ hq => hq.trans q1.post (q1.keep hrd.len)) _ _ _ _ this
      ·exact ⟨F', μ', { env := [], H := H', nt := s.nt, dfs := s.dfs }, .pan d, q1.post, q1.keep hrd.len, ⟨q1.hr, ⟨(fun t d ht => by cases ht), hrd.nt, q1.adr hrd.hr hrd.dfs⟩, Nat.le_trans hrd.len q1.len⟩, ⟨v, rfl, q2⟩, q3 []⟩
     ·rw [if_neg (by rw [hwt]; simp)];have hrd' := hrd.eff rfl hd (o := o) (d := .tup []) (v := undef) (ds := s.dfs) (Stp.refl hrd.hr) hrd.dfs Z5h (fun u hu => hpin _ _ _ hkk u (hsub' u hu) (hrd.ok u hu));have := ih _ _ _ hkk und hsub' F μ _ _ w hrd';rw [hn, List.length_cons] at this;exact this
    ·rcases List.mem_cons.1 hjL with rfl | hjL
     ·have er := hsw.er ho2 hj (fun u' hu' o' t h1 h2 h3 => hl2.out u' (hsub u' hu') o' t h1 h2 h3);have hsub' : ∀ u ∈ und, u ∈ p2 := fun u hu => (hpp2 u (hsub u hu)).resolve_right fun hin => hsw.pre ho2 hj _ hin (.inr ⟨u, hu, rfl⟩);unfold op1Z;rw [ho2];simp only;obtain ⟨e, he, hc⟩ := Z4m hk2 er;have er' : ER F μ { s.only (o2.looksAt ops) with env := e } a := ⟨fun t d ht => er.env t d (he t d ht), er.nt, er.dfs⟩;rcases hc with ⟨hwt, hkk⟩ | ⟨hwt, hkk⟩
      ·rw [if_pos hwt];refine hkk.out F μ a w hsw.hr er' _ _ (fun F' μ' H' w' ds dv d v q1 qd q2 q3 => ?_) (fun F' μ' H' w' d v q1 q2 q3 => ?_)
       ·have hrd' := hsw.eff rfl hd2 (o := o2) (ds := ds) q1 qd q2 (fun u hu => hpin2 d H' ds q3 u (hsub' u hu) (hsw.ok u hu));have := ih2 d H' ds q3 und hsub' F' μ' _ _ w' hrd';rw [hn, List.length_cons] at this;exact Z1vw (fun _ _ _ hq => hq.trans q1.post (q1.keep hsw.len)) _ _ _ _ this
       ·exact ⟨F', μ', { env := [], H := H', nt := s.nt, dfs := s.dfs }, .pan d, q1.post, q1.keep hsw.len, ⟨q1.hr, ⟨(fun t d ht => by cases ht), hsw.nt, q1.adr hsw.hr hsw.dfs⟩, Nat.le_trans hsw.len q1.len⟩, ⟨v, rfl, q2⟩, q3 []⟩
      ·rw [if_neg (by rw [hwt]; simp)];have hrd' := hsw.eff rfl hd2 (o := o2) (d := .tup []) (v := undef) (ds := s.dfs) (Stp.refl hsw.hr) hsw.dfs Z5h (fun u hu => hpin2 _ _ _ hkk u (hsub' u hu) (hsw.ok u hu));have := ih2 _ _ _ hkk und hsub' F μ _ _ w hrd';rw [hn, List.length_cons] at this;exact this
     ·obtain ⟨-, o', ho', -⟩ := mem_ready.1 hj;obtain ⟨e, he1, he2⟩ := hr q hjL o' ho';exact (hrd.pre ho' hj e he1 (.inl (by rcases he2 with rfl | rfl | he2 <;> simp [*]))).elim
   ·have hnd := hrd.nd;rw [List.nodup_append] at hnd;have hlen := Z6k hnd.2.1 (List.mem_map.2 ⟨u, hu, rfl⟩);have := Zfg (Q := Q) (r := r) hT hrd hu hj (fun F μ listed a w h => ihn (Z3p und u.1).length (by omega) (Z3p und u.1) rfl (fun x hx => hsub x (Z1x.1 hx).1) F μ listed a w h);rw [List.length_cons, List.length_cons, show L.length + 1 + 1 + (Z3p und u.1).length = L.length + 1 + n by omega] at this;exact this
end
end Go.Abs

namespace Go.Abs
open Go
def allB (p : Nat -> Bool) : List Nat -> Bool
 | [] => true
 | i :: r => (match p i with | true => allB p r | false => false)
theorem Z70 {p : Nat -> Bool} : ∀ {l : List Nat}, allB p l = true ↔ ∀ i ∈ l, p i = true
 | [] => by simp [allB]
 | i :: r => by
  simp only [allB]
  split
  ·rename_i h; rw [Z70 (l := r)]; simp [h]
  ·rename_i h; simp [h]
def Zh0 (n : Nat) (L : List Nat) : Bool := Nat.beq L.length n && (allB (fun i => Nat.blt i n) L && (allB (fun i => Z7a L i) (List.range n) && nodupB L))
 where nodupB : List Nat -> Bool
 | [] => true
 | i :: r => (match Z7a r i with | true => false | false => nodupB r)
theorem Zfh : ∀ {l : List Nat}, Zh0.nodupB l = true -> l.Nodup
 | [], _ => List.nodup_nil
 | i :: r, h => by
  simp only [Zh0.nodupB] at h
  split at h
  ·cases h
  ·rename_i hm
   refine List.nodup_cons.2 ⟨fun hi => ?_, Zfh h⟩;rw [(Z3w r i).2 hi] at hm; cases hm
def Zim (ops : Array Oper) : Bool := allB (fun i => match ops[i]? with | some o => allB (fun e => Nat.blt e i) (ons o) | none => true) (List.range ops.size)
section
variable {P : Program} {T : TT} {r : Option Nat} {m : Nat} {ops : Array Oper} {Q : AX -> St -> Prop} {s : St} {L : List Nat} {A : Ar}
theorem Zin (h : Zim ops = true) : ∀ (i : Nat) (o : Oper), ops[i]? = some o -> ∀ e ∈ ons o, e < i := fun i o ho e he => by
 have h1 := Z70.1 h i (List.mem_range.2 (Array.getElem?_eq_some_iff.1 ho).1);rw [ho] at h1;exact Nat.le_of_ble_eq_true (Z70.1 h1 e he)
theorem Zk9 (hT : TOK P T) {id : Nat} (hE : Zim ops = true) (hL : Zh0 ops.size L = true) (hD : DrawA P T r m ops Q L [] s) : WpA P r m (.region id ops true) Q s := by
 refine ⟨fun F μ a w h1 => ?_⟩;simp only [Zh0, Bool.and_eq_true] at hL;obtain ⟨l1, l2, l4, l3⟩ := hL;have l1 := Nat.eq_of_beq_eq_true l1;have l3 := Zfh l3;have hmem : ∀ i, i ∈ L ↔ i < ops.size := fun i => by
  constructor
  ·intro hi; exact Nat.le_of_ble_eq_true (Z70.1 l2 i hi)
  ·intro hi; exact (Z3w L i).1 (Z70.1 l4 i (List.mem_range.2 hi))
 refine Z1z1 hT.mixed fun n0 => ?_
 let w1 : World := w.at n0
 have hrd : RD T m ops F μ s L [] (Array.replicate ops.size false) a w1 := by
  refine ⟨h1.hr.congr rfl, fun t d ht _ => h1.er.env t d ht, h1.er.nt, h1.er.dfs, h1.len, by simp, fun i => ?_, by simpa using l3, fun u hu => by simp at hu, fun u hu => by simp at hu, fun u hu => by simp at hu, fun u hu => by simp at hu, fun u hu => by simp at hu⟩;rw [hmem i, Array.getElem?_replicate];simp
 have := Zk8 hT (Zin hE) hD [] (fun u hu => by simp at hu) F μ _ a w1 hrd;rw [List.length_nil, Nat.add_zero, l1] at this;exact Z1vw (fun _ _ _ hq => hq.trans (Post.congr (w2 := w1) (Post.refl F μ s.H w) rfl rfl rfl rfl) (.refl _ _ _)) _ _ _ _ this
theorem Z3l : ∀ {e : List (Nat × D)} {t : Nat} {d : D}, Z1c e t = some d -> Z6j e t d = e
 | [], t, d, h => by cases h
 | (t0, d0) :: r, t, d, h => by
  simp only [Z1c] at h;simp only [Z6j]
  split
  ·rename_i hb
   obtain rfl := Nat.eq_of_beq_eq_true hb;rw [if_pos rfl] at h; cases h; rfl
  ·rename_i hb
   rw [if_neg (fun e => by subst e; rw [Nat.beq_refl] at hb; cases hb)] at h;rw [Z3l h]
theorem Z3q {o : Oper} {Kt Kf : St -> Prop} (h : Zh ops s o Kt Kf) : (Kt s /\ ∀ K1 K2 : St -> Prop, K1 s -> Zh ops s o K1 K2) ∨ (Kf s /\ ∀ K1 K2 : St -> Prop, K2 s -> Zh ops s o K1 K2) := by
 unfold Zh at h
 split at h
 ·rename_i hg; exact .inl ⟨h, fun K1 K2 hk => by unfold Zh; rw [hg]; exact hk⟩
 ·rename_i j want hg
  split at h
  ·rename_i ho; exact .inr ⟨h, fun K1 K2 hk => by unfold Zh; rw [hg]; simp only [ho]; exact hk⟩
  ·rename_i oj ho
   split at h
   ·rename_i hd; exact .inr ⟨h, fun K1 K2 hk => by unfold Zh; rw [hg]; simp only [ho, hd]; exact hk⟩
   ·rename_i t hd
    split at h
    ·rename_i b hb
     cases want <;> cases b <;> simp only [Z3l hb] at h
     ·exact .inl ⟨h, fun K1 K2 hk => by unfold Zh; rw [hg]; simp only [ho, hd, hb, Z3l hb]; exact hk⟩
     ·exact .inr ⟨h, fun K1 K2 hk => by unfold Zh; rw [hg]; simp only [ho, hd, hb, Z3l hb]; exact hk⟩
     ·exact .inr ⟨h, fun K1 K2 hk => by unfold Zh; rw [hg]; simp only [ho, hd, hb, Z3l hb]; exact hk⟩
     ·exact .inl ⟨h, fun K1 K2 hk => by unfold Zh; rw [hg]; simp only [ho, hd, hb, Z3l hb]; exact hk⟩
    ·rename_i hb; exact .inr ⟨h, fun K1 K2 hk => by unfold Zh; rw [hg]; simp only [ho, hd, hb]; exact hk⟩
    ·exact h.elim
theorem Zfi {env : List (Nat × D)} : ∀ {ts : List Nat} {t : Nat}, t ∈ ts -> Z1c (rE env ts) t = Z1c env t
 | [], t, h => by simp at h
 | t0 :: r, t, h => by
  simp only [rE]
  by_cases e : t0 = t
  ·subst e
   split
   ·rename_i d hd; simp only [Z1c, if_true]; exact hd.symm
   ·rename_i hd
    by_cases h2 : t0 ∈ r
    ·exact Zfi h2
    ·rw [hd]
     cases hx : Z1c (rE env r) t0 with
     | none => rfl
     | some x => exact absurd (Zil hx).2 h2
  ·have h2 : t ∈ r := by
    rcases List.mem_cons.1 h with e' | h
    ·exact absurd e'.symm e
    ·exact h
   split
   ·simp only [Z1c, if_neg e]; exact Zfi h2
   ·exact Zfi h2
theorem Z3r {o : Oper} {K1 K2 : St -> Prop} (h : ∀ K1 K2 : St -> Prop, K1 s -> Zh ops s o K1 K2) (hk : K1 (s.only (o.looksAt ops))) : Zh ops (s.only (o.looksAt ops)) o K1 K2 := by
 have h1 := h (fun _ => True) (fun _ => False) trivial;unfold Zh at h1 ⊢
 split at h1
 ·rename_i hg; exact hk
 ·rename_i j want hg
  split at h1
  ·exact h1.elim
  ·rename_i oj ho
   split at h1
   ·exact h1.elim
   ·rename_i t hd
    have ht : t ∈ o.looksAt ops := by
     unfold Oper.looksAt; rw [hg]; simp [ho, hd]
    have hget : Z1c (s.only (o.looksAt ops)).env t = Z1c s.env t := Zfi ht
    split at h1
    ·rename_i b hb
     rw [hb] at hget;rw [hget]
     cases want <;> cases b <;> simp only at h1 ⊢ <;> first | exact h1.elim | (rw [Z3l hget]; exact hk)
    ·exact h1.elim
    ·exact h1.elim
theorem Z4n {o : Oper} {K1 K2 : St -> Prop} (h : ∀ K1 K2 : St -> Prop, K2 s -> Zh ops s o K1 K2) (hk : K2 (s.only (o.looksAt ops))) : Zh ops (s.only (o.looksAt ops)) o K1 K2 := by
 have h1 := h (fun _ => False) (fun _ => True) trivial;unfold Zh at h1 ⊢
 split at h1
 ·exact h1.elim
 ·rename_i j want hg
  split at h1
  ·exact hk
  ·rename_i oj ho
   split at h1
   ·exact hk
   ·rename_i t hd
    have ht : t ∈ o.looksAt ops := by
     unfold Oper.looksAt; rw [hg]; simp [ho, hd]
    have hget : Z1c (s.only (o.looksAt ops)).env t = Z1c s.env t := Zfi ht
    split at h1
    ·rename_i b hb
     rw [hb] at hget;rw [hget]
     cases want <;> cases b <;> simp only at h1 ⊢ <;> first | exact h1.elim | (rw [Z3l hget]; exact hk)
    ·rename_i hb
     rw [hb] at hget;rw [hget]; exact hk
    ·exact h1.elim
end
end Go.Abs

namespace Go.Abs
open Go
def Z9j : Op -> Bool
 | .load _ _ => true
 | .lookup _ _ _ _ => true
 | _ => false
section
variable {P : Program} {T : TT} {r : Option Nat} {m : Nat} {ops : Array Oper} {Q : AX -> St -> Prop} {s : St} {L : List Nat} {A : Ar}
theorem Zdx {s1 s2 : St} (h : s2.env = s1.env) {K : D -> Prop} {op : Op} (hl : Z9j op = false) : Z1q A T s2 K op = Z1q A T s1 K op := by
 cases op
 case load => simp [Z9j] at hl
 case lookup => simp [Z9j] at hl
 case slice t x lo hi mx => cases mx <;> simp only [Z1q, h]
 case call c =>
  obtain ⟨callee, args, ats⟩ := c
  cases callee with
  | value f => rfl
  | invoke a b => rfl
  | builtin b => cases b <;> first | rfl | simp only [Z1q, h]
 all_goals first | rfl | simp only [Z1q, h]
theorem Z5i {H : List Blk} {x y : Blk} {k : Nat} (h : Z1m H k = some y) : Z1m (H ++ [x]) k = some y := by
 rw [Z1u] at h ⊢;rw [List.getElem?_append_left (List.getElem?_eq_some_iff.1 h).1]; exact h
theorem Zum {H : List Blk} {x : Blk} {agg : Bool} {n : Nat} {d : D} {K : D -> Prop} (h : ldP A H agg n K d) : ldP A (H ++ [x]) agg n K d := by
 unfold ldP at h ⊢
 split at h
 ·split at h
  ·rename_i hb; rw [Z5i hb]; exact h
  ·exact h.elim
 ·split at h
  ·rename_i hb; rw [Z5i hb]; exact h
  ·exact h.elim
 ·split at h
  ·rename_i hb; rw [Z5i hb]; exact h
  ·rename_i hb; rw [Z5i hb]; exact h
  ·exact h.elim
 ·exact h
 ·exact h
 ·exact h.elim
theorem Zrt {H : List Blk} {x : Blk} {t : TypeId} {ok : Bool} {K : D -> Prop} {key m : D} (h : Zea A T H t ok K key m) : Zea A T (H ++ [x]) t ok K key m := by
 unfold Zea at h ⊢
 split at h
 ·exact h
 ·split at h
  ·rename_i h1 h2; rw [h1, Z5i h2]; exact h
  ·rename_i h1 h2; rw [h1, Z5i h2]; exact h
  ·exact h.elim
 ·exact h.elim
theorem Zru {s1 : St} {x : Blk} {K : D -> Prop} {op : Op} (h : Z1q A T s1 K op) : Z1q A T { s1 with H := s1.H ++ [x] } K op := by
 by_cases hl : Z9j op = true
 ·cases op <;> simp [Z9j] at hl
  case load t a =>
   simp only [Z1q] at h ⊢
   split at h
   ·exact Zum h
   ·exact h.elim
  case lookup t a i ok =>
   simp only [Z1q] at h ⊢
   split at h
   ·exact Zrt h
   ·exact h.elim
 ·exact (Zdx (s1 := s1) (s2 := { s1 with H := s1.H ++ [x] }) rfl (by simpa using hl)).mpr h
def Zrv (A : Ar) (T : TT) (ops : Array Oper) (s : St) (u : Nat × PK) : Prop :=
 match u.2 with
 | .val d => (match ops[u.1]? with | some o => (match Z9j o.op with | true => Z9i A T ops (s.only (o.looksAt ops)) o (fun x => x = d) | false => True) | none => False)
 | .alc k x _ => Z1m s.H k = some x
def Z7f (A : Ar) (T : TT) (ops : Array Oper) (s : St) : List (Nat × PK) -> Prop
 | [] => True
 | u :: r => Zrv A T ops s u /\ Z7f A T ops s r
theorem Zad : ∀ {l : List (Nat × PK)}, Z7f A T ops s l -> ∀ u ∈ l, Zrv A T ops s u
 | [], _, u, hu => by simp at hu
 | v :: r, h, u, hu => by
  rcases List.mem_cons.1 hu with rfl | hu
  ·exact h.1
  ·exact Zad h.2 u hu
theorem Zdy {s1 s2 : St} (h : s2.env = s1.env) {o : Oper} {K1 K2 K1' K2' : St -> Prop} (hg : Zh ops s1 o K1 K2) (h1 : ∀ e, K1 { s1 with env := e } -> K1' { s2 with env := e }) (h2 : ∀ e, K2 { s1 with env := e } -> K2' { s2 with env := e }) : Zh ops s2 o K1' K2' := by
 have e1 : ({ s2 with env := s1.env } : St) = s2 := by rw [<- h]
 have h10 := h1 s1.env;have h20 := h2 s1.env;rw [e1] at h10 h20;unfold Zh at hg ⊢;rw [h]
 split at hg
 ·exact h10 hg
 ·split at hg
  ·exact h20 hg
  ·split at hg
   ·exact h20 hg
   ·split at hg
    ·split at hg <;> split at hg <;> first | exact h1 _ hg | exact h2 _ hg
    ·exact h20 hg
    ·exact hg.elim
theorem Zeh {u : Nat × PK} {o : Oper} {d : D} {H' : List Blk} {ds : List AD} (hw : ∀ o' t, ops[u.1]? = some o' -> o.dst = some t -> o'.dst ≠ some t /\ t ∉ o'.looksAt ops) (h : POk ar T ops s u) (hp : Zrv ar T ops (s.step o.dst d H' ds) u) : POk ar T ops (s.step o.dst d H' ds) u := by
 obtain ⟨o', h1, h2, h3, h4⟩ := h.out;have he : ((s.step o.dst d H' ds).only (o'.looksAt ops)).env = (s.only (o'.looksAt ops)).env := Zce fun t ht => (hw o' t h1 ht).2;refine ⟨o', h1, h2, fun t ht => ?_, ?_⟩
 ·show Z1c (Z9c s.env o.dst d) t = _;rw [Z5o, if_neg (fun e => (hw o' t h1 e).1 ht)]; exact h3 t ht
 ·obtain ⟨i, pk⟩ := u
  cases pk with
  | val d' =>
   simp only at h4 h1 ⊢;simp only [Zrv, h1] at hp
   cases hl : Z9j o'.op with
   | true => rw [hl] at hp; exact hp
   | false =>
    unfold Z9i at h4 ⊢;exact Zdy he h4 (fun e hv => (Zdx (s1 := { s.only (o'.looksAt ops) with env := e }) (s2 := { (s.step o.dst d H' ds).only (o'.looksAt ops) with env := e }) rfl hl).mpr hv) (fun e hv => hv)
  | alc k x d' =>
   simp only at h4 ⊢;exact ⟨Zgz he h4.1, hp, h4.2.2⟩
theorem Zo4 {u : Nat × PK} {o : Oper} {d : D} {x : Blk} (hw : ∀ o' t, ops[u.1]? = some o' -> o.dst = some t -> o'.dst ≠ some t /\ t ∉ o'.looksAt ops) (h : POk ar T ops s u) : POk ar T ops (s.step o.dst d (s.H ++ [x]) s.dfs) u := by
 refine Zeh hw h ?_;obtain ⟨o', h1, h2, h3, h4⟩ := h.out;obtain ⟨i, pk⟩ := u
 cases pk with
 | val d' =>
  simp only at h1 h4;simp only [Zrv, h1]
  cases hl : Z9j o'.op with
  | false => trivial
  | true =>
   have he : ((s.step o.dst d (s.H ++ [x]) s.dfs).only (o'.looksAt ops)).env = (s.only (o'.looksAt ops)).env := Zce fun t ht => (hw o' t h1 ht).2;unfold Z9i at h4 ⊢;refine Zdy he h4 (fun e hv => ?_) (fun e hv => hv);exact Zru (s1 := { s.only (o'.looksAt ops) with env := e }) hv
 | alc k y d' => exact Z5i h4.2.1
theorem Zh1 {s1 : St} {K K' : Blk -> (Nat -> D) -> Prop} {op : Op} (h : Z5g A T s1 K op) (hk : ∀ x mk, K x mk -> K' x mk) : Z5g A T s1 K' op := by
 cases op <;> try exact h.elim
 case alloc t =>
  simp only [Z5g] at h ⊢
  split at h
  ·split at h
   ·exact hk _ _ h
   ·exact h.elim
  ·exact h.elim
 case box t x =>
  simp only [Z5g] at h ⊢
  split at h
  ·split at h
   ·exact hk _ _ h
   ·exact h.elim
  ·exact h.elim
 case buildSlice t n parts =>
  simp only [Z5g, Zpd] at h ⊢
  split at h
  ·split at h
   ·split at h
    ·split at h
     ·split at h
      ·exact hk _ _ h
      ·exact hk _ _ h
     ·exact h.elim
    ·exact h.elim
   ·exact h.elim
  ·exact h.elim
 case makeSlice t n c =>
  simp only [Z5g, Zpe] at h ⊢
  split at h
  ·split at h
   ·split at h
    ·obtain ⟨h1, h2, h3⟩ := h;refine ⟨h1, h2, ?_⟩
     split at h3
     ·exact hk _ _ h3
     ·exact h3.elim
    ·exact h.elim
   ·exact h.elim
  ·exact h.elim
theorem Zka {s1 : St} {K : Blk -> (Nat -> D) -> Prop} {op : Op} (h : Z5g ar T s1 K op) (hT : TOK P T) : ∃ x mk, K x mk /\ BFr x /\ Z5g ar T s1 (fun y mk' => y = x /\ mk' = mk) op := by
 cases op <;> try exact h.elim
 case alloc t =>
  simp only [Z5g] at h ⊢
  split at h
  ·rename_i e he
   split at h
   ·rename_i hb; exact ⟨_, _, h, (fun _ _ e => by cases e), by simp only [he, hb, and_self]⟩
   ·exact h.elim
  ·exact h.elim
 case box t x =>
  simp only [Z5g] at h ⊢
  split at h
  ·rename_i e he
   split at h
   ·rename_i hb; exact ⟨_, _, h, (fun _ _ e => by cases e), by simp only [he, hb, and_self]⟩
   ·exact h.elim
  ·exact h.elim
 case buildSlice t n parts =>
  simp only [Z5g, Zpd] at h ⊢
  split at h
  ·rename_i e he
   split at h
   ·rename_i el hel
    split at h
    ·rename_i e2 he2
     split at h
     ·rename_i es sz h1 h2 h3
      split at h
      ·rename_i hf
       exact ⟨_, _, h, (fun _ _ e => by cases e; exact ⟨Z30.1 hf⟩), by simp only [he, hel, he2, h1, h2, h3, hf, and_self]⟩
      ·rename_i hf
       exact ⟨_, _, h, (fun _ _ e => by cases e), by simp only [he, hel, he2, h1, h2, h3, hf, and_self]⟩
     ·exact h.elim
    ·exact h.elim
   ·exact h.elim
  ·exact h.elim
 case makeSlice t n c =>
  simp only [Z5g, Zpe] at h ⊢
  split at h
  ·rename_i e k i he hs hn
   split at h
   ·rename_i el hel
    split at h
    ·rename_i e2 he2
     obtain ⟨h1, h2, h3⟩ := h
     split at h3
     ·rename_i xs hxs
      obtain ⟨_, _, z, _, _, _, _, _, _, hz, _⟩ := hT.at he2;exact ⟨_, _, h3, (fun _ _ e => by cases e; exact .rep (by rw [hz]; exact Znu z)), by simp only [he, hs, hn, hel, he2, hxs, and_self, and_true]; exact ⟨h1, h2⟩⟩
     ·exact h3.elim
    ·exact h.elim
   ·exact h.elim
  ·exact h.elim
end
end Go.Abs

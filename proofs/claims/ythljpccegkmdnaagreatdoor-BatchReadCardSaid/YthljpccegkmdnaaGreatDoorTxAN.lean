/- Part TxAN of the proofs about the benches of the accordion maker: see the last text of the claim for what is proved. -/
import Derived.Laws.IdiomRangeMap
import Derived.RecoverIn
import Derived.Test.YthljpccegkmdnaaGreatDoorTxAK
set_option linter.unusedVariables false
set_option linter.unusedSimpArgs false
set_option linter.unnecessarySimpa false
set_option linter.constructorNameAsVariable false

namespace Go.Abs
open Go
def Zfm (kn : Nat) (l : List Int) : D := match kn with | 0 => .v (.int .i64 (l.headD 0)) | _ + 1 => .agg (l.map (fun x => .v (.int .i64 x)))
section
variable {P : Program} {T : TT} {F : Fz} {μ : Mu} {w : World} {r : Option Nat} {m : Nat} {ops : Array Oper} {Q : AX -> St -> Prop} {s : St}
theorem Zh4 (kn : Nat) (l : List Int) (hl : l.length = Nat.max 1 kn) : VR F μ (Zfm kn l) (Z1k (kn != 0) l) := by
 cases kn with
 | zero => exact .cl _ _ (.v _ rfl)
 | succ n =>
  show VR F μ (.agg (l.map (fun x => .v (.int .i64 x)))) (.agg (l.map (Value.int .i64)).toArray);refine .cl _ _ (.agg _ _ (by simp) (fun i c v h1 h2 => ?_) (fun i v h2 => ?_))
  ·simp only [List.getElem?_map, Option.map_eq_some_iff] at h1;simp only [List.getElem?_toArray, List.getElem?_map, Option.map_eq_some_iff] at h2;obtain ⟨x, hx, rfl⟩ := h1;obtain ⟨y, hy, rfl⟩ := h2;rw [hx] at hy; cases hy;exact .v _ rfl
  ·simp only [List.getElem?_toArray, List.getElem?_map, Option.map_eq_some_iff] at h2;obtain ⟨y, hy, rfl⟩ := h2;rfl
theorem Zkh {w : World} {b : Nat} {o : Obj} (h : w.heap[b]? = some o) : w.heap = w.heap.setIfInBounds b o := by
 apply Array.ext_getElem?
 intro j;rw [Array.getElem?_setIfInBounds]
 split
 ·rename_i e; subst e
  have hlt := (Array.getElem?_eq_some_iff.1 h).1;rw [if_pos hlt]; exact h
 ·rfl
theorem Z6t {o : Oper} {K : D -> List Blk -> List AD -> Prop} {X : D -> List Blk -> Prop} (hT : TOK P T) {t : TypeId} {x : Operand} {k kn : Nat} {ee : TE} {ents : List (List Int × D)} (ho : o.op = .range t x) (hx : evo s.env x = some (.mv k))
  (hk : Z1m s.H k = some (.ob (.mp kn ents))) (hmt : Zc3 T t = some (kn, ee))
  (h : ∀ bs clock, bs.length = ents.length -> bs.Nodup -> (∀ c ∈ bs, c < clock) -> K (.b s.H.length 0) (s.H.set k (.ob (.mpx kn ents bs clock)) ++ [.ob (.mi k clock [] clock)]) s.dfs) : OpA P r o s K X := by
 refine ⟨fun F μ a w hr he next Q hn _ => ?_⟩;obtain ⟨kt, et, hu, -⟩ := Z7d hT hmt;have hxv := he.evo hx;obtain ⟨b, mm, hav, hμ⟩ : ∃ b m, a.eval x = .map (some b) /\ μ k = some (some (b, m)) := by
  generalize a.eval x = v at hxv
  cases hxv with | cl _ _ hc => cases hc | mv _ b m hμ => exact ⟨b, m, rfl, hμ⟩
 have hob := Z42 hk;obtain ⟨b', es, clock, o1, o2, o3, o4, o5, o6, o7⟩ := hr.obj _ _ hob (by rw [hμ]; simp);rw [hμ] at o1; cases o1
 let bs : List Nat := es.toList.map (·.born)
 have hlen : bs.length = ents.length := by simp [bs, o3]
 have hget : ∀ (i c : Nat), bs[i]? = some c -> ∃ e : MapEntry, es[i]? = some e /\ e.born = c := fun i c hi => by
  have hi' : (es.toList.map (·.born))[i]? = some c := hi;rw [List.getElem?_map, Option.map_eq_some_iff] at hi';obtain ⟨e, h1, h2⟩ := hi';exact ⟨e, by rw [<- Array.getElem?_toList]; exact h1, h2⟩
 have hnd : bs.Nodup := by
  rw [List.nodup_iff_pairwise_ne, List.pairwise_iff_getElem];intro i j hi hj hij e;obtain ⟨e1, h1, h2⟩ := hget i _ (List.getElem?_eq_getElem hi);obtain ⟨e2, h3, h4⟩ := hget j _ (List.getElem?_eq_getElem hj);have := o5 i j e1 e2 h1 h3 (by rw [h2, h4, e]);omega
 have hlt : ∀ c ∈ bs, c < clock := fun c hc => by
  obtain ⟨i, hi⟩ := List.mem_iff_getElem?.1 hc;obtain ⟨e, h1, h2⟩ := hget i c hi;rw [<- h2]; exact o4 i e h1
 obtain ⟨q1, q2⟩ := Zbc hr (y := .mpx kn ents bs clock) (o := .map es clock) hob hμ o7 (w' := w) (Zkh o2) rfl rfl rfl (fun hb => ⟨b, es, hμ, hb, o3, rfl, hlt, hnd, o6, o7⟩);have hst1 : Stp F μ s.H w F μ (s.H.set k (.ob (.mpx kn ents bs clock))) w := ⟨q2, q1, by simp, fun _ _ => rfl, fun i hi => ⟨Z48 (y := .mk) hob (by intro e; cases e) _ hi, fun _ e => e⟩⟩;have hsz : (s.H.set k (.ob (.mpx kn ents bs clock))).length = s.H.length := by simp
 obtain ⟨u1, u2, u3⟩ := Zjj q1 (x := .mi k clock [] clock) (o := .mapIter (some b) clock #[] clock) (by intro e; cases e) (fun hb hm => ⟨w.heap.size, b, 0, Z2f _ _ _, hm _ _ hμ, hb, fun c hc => hr.non _ (hr.dom _ (by rw [hsz]; exact Nat.le_refl _)) c hc⟩);rw [hsz] at u1 u2 u3;have hst2 : Stp F μ (s.H.set k (.ob (.mpx kn ents bs clock))) w F (Z4v μ s.H.length (some (w.heap.size, 0))) (s.H.set k (.ob (.mpx kn ents bs clock)) ++ [.ob (.mi k clock [] clock)]) (w.alloc (.mapIter (some b) clock #[] clock)) :=
  ⟨u2, u1, by simp, fun j hj => by rw [Z2k _ (by rw [hsz] at hj; omega)], .app _ _ _ _ _⟩
 have hst := hst1.trans hst2;have hrun := run_range_map (P := P) w t kt et b es clock hu o2;rw [Oper.semAt_eq r a.eval o (fun c e => by rw [ho] at e; cases e)];have hex : (execOp a.eval o).run P w = .ok (.value (.pointer (some ⟨w.heap.size, 0, none⟩))) (w.alloc (.mapIter (some b) clock #[] clock)) := by
  unfold execOp;rw [ho];simp only [hav, Sem.run_bind, hrun, Result.andThen_ok, Sem.run_pure]
 rw [hex, Oper.uponIn_value];exact hn F _ _ _ s.dfs _ _ _ hst (hst.adr hr he.dfs) (.b _ 0 _ _ (Z2f _ _ _)) (h bs clock hlen hnd hlt)
theorem Zuw {d : D} {v : Value} (h : VR F μ d v) : VR F μ (.tup [d]) (.tuple #[v]) := .tup _ _ rfl fun i c u h1 h2 => by
 match i, h1, h2 with
 | 0, h1, h2 => simp at h1 h2; subst h1 h2; exact h
 | n + 1, h1, h2 => simp at h1
theorem Zux {d e : D} {v u : Value} (h : VR F μ d v) (h' : VR F μ e u) : VR F μ (.tup [d, e]) (.tuple #[v, u]) := .tup _ _ rfl fun i c u h1 h2 => by
 match i, h1, h2 with
 | 0, h1, h2 => simp at h1 h2; subst h1 h2; exact h
 | 1, h1, h2 => simp at h1 h2; subst h1 h2; exact h'
 | n + 2, h1, h2 => simp at h1
theorem Zuy {d e f : D} {v u x : Value} (h : VR F μ d v) (h' : VR F μ e u) (h'' : VR F μ f x) : VR F μ (.tup [d, e, f]) (.tuple #[v, u, x]) := .tup _ _ rfl fun i c u h1 h2 => by
 match i, h1, h2 with
 | 0, h1, h2 => simp at h1 h2; subst h1 h2; exact h
 | 1, h1, h2 => simp at h1 h2; subst h1 h2; exact h'
 | 2, h1, h2 => simp at h1 h2; subst h1 h2; exact h''
 | n + 3, h1, h2 => simp at h1
theorem Zoh {a : Act} (he : ER F μ s a) {x : Operand} {j : Nat} (hx : evo s.env x = some (.b j 0)) : ∃ b m, a.eval x = .pointer (some ⟨b, 0, none⟩) /\ μ j = some (some (b, m)) := by
 have hxv := he.evo hx
 generalize a.eval x = v at hxv
 cases hxv with
 | cl _ _ hc => cases hc
 | b _ _ b m hμ => exact ⟨b, m, rfl, hμ⟩
theorem Z7y {o : Oper} {K : D -> List Blk -> List AD -> Prop} {X : D -> List Blk -> Prop} {x : Operand} {j k kn clock : Nat} {ents : List (List Int × D)} {bs seen : List Nat} (ho : o.op = .next x false) (hx : evo s.env x = some (.b j 0))
  (hj : Z1m s.H j = some (.ob (.mi k clock seen clock))) (hk : Z1m s.H k = some (.ob (.mpx kn ents bs clock)))
  (h0 : (∀ c ∈ bs, c ∈ seen) -> K (.tup [.v (.bool false)]) s.H s.dfs)
  (h1 : ∀ (i c : Nat) (e : List Int × D), bs[i]? = some c -> ents[i]? = some e -> c ∉ seen -> e.1.length = Nat.max 1 kn -> K (.tup [.v (.bool true), Zfm kn e.1, e.2]) (s.H.set j (.ob (.mi k clock (seen ++ [c]) clock))) s.dfs) : OpA P r o s K X := by
 refine ⟨fun F μ a w hr he next Q hn _ => ?_⟩;obtain ⟨b, mb, hav, hμj⟩ := Zoh he hx;have hoj := Z42 hj;have hok := Z42 hk;obtain ⟨b', bm, m', i1, i2, i3, i4⟩ := hr.obj _ _ hoj (by rw [hμj]; simp);rw [hμj] at i1; cases i1;obtain ⟨bm', es, k1, k2, k3, k4, k5, k6, k7, k8⟩ := hr.obj _ _ hok (by rw [i2]; simp);rw [i2] at k1; cases k1;have hborn : ∀ x ∈ es.toList, x.born < clock := fun x hx => k5 _ (by rw [<- k4]; exact List.mem_map.2 ⟨x, hx, rfl⟩);rw [Oper.semAt_eq r a.eval o (fun c e => by rw [ho] at e; cases e)];have hex : execOp a.eval o = (do let v <- Instr.next (.pointer (some ⟨b, 0, none⟩)) false o.type; pure (.value v)) := by
  unfold execOp;rw [ho];simp only [hav]
 have hcont : ∀ c, seen.toArray.contains c = true ↔ c ∈ seen := fun c => by simp
 have hrun : ((leftOf es seen.toArray).size = 0 /\ (Instr.next (.pointer (some ⟨b, 0, none⟩)) false o.type).run P w = .ok (.tuple #[.bool false]) w) ∨
   ∃ e ∈ (leftOf es seen.toArray).toList, ∃ w1 : World, w1.heap = w.heap /\ w1.tape = w.tape /\ w1.os = w.os /\ w1.output = w.output /\
    (Instr.next (.pointer (some ⟨b, 0, none⟩)) false o.type).run P w = .ok (.tuple #[.bool true, e.key, e.val]) { w1 with heap := w1.heap.setIfInBounds b (.mapIter (some bm) clock (seen.toArray.push e.born) clock) } := by
  simp only [Instr.next, getObj, Sem.run_bind, Sem.run, i3, k2, Result.andThen, next_test_false seen.toArray es clock clock hborn (Nat.le_refl _), Bool.false_eq_true, if_false];unfold leftOf;have hmem : ∀ x ∈ (Array.filter (fun e => !seen.toArray.contains e.born) es).toList, x.born < clock := fun x hx => hborn x (by simp at hx ⊢; exact hx.1)
  generalize Array.filter (fun e => !seen.toArray.contains e.born) es = L at hmem ⊢
  have e1 : L.filter (fun x => decide (x.born < clock)) = L := Array.filter_eq_self.2 (fun x hx => by simpa using hmem x (by simpa using hx));have e2 : L.filter (fun x => decide (x.born ≥ clock)) = #[] := by
   rw [Array.filter_eq_empty_iff];intro x hx;have := hmem x (by simpa using hx);simp;omega
  simp only [e1, e2, Array.append_empty]
  by_cases h0 : L.size = 0
  ·left
   have : L = #[] := Array.eq_empty_of_size_eq_zero h0;subst this;refine ⟨rfl, ?_⟩;simp [choose, Sem.run, Question.forced]
  ·right
   have hne : L.isEmpty = false := by simp [Array.isEmpty, h0]
   simp only [hne, Bool.false_eq_true, if_false, Array.empty_append, Array.size_map];have hch : ∃ (j : Nat) (w1 : World), j < L.size /\ w1.heap = w.heap /\ w1.tape = w.tape /\ w1.os = w.os /\ w1.output = w.output /\ (choose (Question.mapNext L.size)).run P w = .ok j w1 := by
    by_cases hf : L.size <= 1
    ·exact ⟨0, w, by omega, rfl, rfl, rfl, rfl, by simp [choose, Sem.run, Question.forced, hf]⟩
    ·exact ⟨_, w.drew, Nat.mod_lt _ (by omega), rfl, rfl, rfl, rfl, by
      simp only [choose, Sem.run, Question.forced, decide_eq_true_eq, hf, if_false, Question.cut]
      rfl⟩
   obtain ⟨j, w1, hj, g1, g2, g3, g4, hrun⟩ := hch;refine ⟨L[j], by simp, w1, g1, g2, g3, g4, ?_⟩;have hset : ∀ (o' : Obj), (setObj b o').run P w1 = .ok () { w1 with heap := w1.heap.setIfInBounds b o' } := fun o' => by simp [setObj, Sem.run, g1, i3]
   simp only [hrun, Array.getElem?_map, Array.getElem?_eq_getElem hj, Option.map_some, Sem.run_bind, hset, Result.andThen];rfl
 rw [hex];rcases hrun with ⟨g0, g1⟩ | ⟨e, hel, w1, g1, g2, g3, g4, g5⟩
 ·simp only [Sem.run_bind, g1, Result.andThen_ok, Sem.run_pure, Oper.uponIn_value];refine hn F μ s.H w s.dfs _ _ _ (Stp.refl hr) he.dfs (Zuw (Z3d rfl)) (h0 fun c hc => ?_);rw [<- k4] at hc;obtain ⟨x, hx, rfl⟩ := List.mem_map.1 hc;exact (hcont _).1 (all_seen es seen.toArray g0 x hx)
 ·simp only [Sem.run_bind, g5, Result.andThen_ok, Sem.run_pure, Oper.uponIn_value];obtain ⟨hmem, hns⟩ := mem_left hel;obtain ⟨i, hi⟩ := List.mem_iff_getElem?.1 hmem;rw [Array.getElem?_toList] at hi;have hci : bs[i]? = some e.born := by rw [<- k4]; simp [hi]
  have hlt : i < ents.length := by rw [<- k3]; exact (Array.getElem?_eq_some_iff.1 hi).1
  obtain ⟨y1, y2, y3⟩ := k7 i e _ hi (List.getElem?_eq_getElem hlt);obtain ⟨q1, q2⟩ := Zbc hr (y := .mi k clock (seen ++ [e.born]) clock) (o := .mapIter (some bm) clock (seen.toArray.push e.born) clock) hoj hμj i4
   (w' := { w1 with heap := w1.heap.setIfInBounds b (.mapIter (some bm) clock (seen.toArray.push e.born) clock) }) (by simp only [g1]) g2 g3 g4 (fun hb => ⟨b, bm, _, hμj, i2, by rw [hb]; simp, i4⟩)
  have hst : Stp F μ s.H w F μ (s.H.set j (.ob (.mi k clock (seen ++ [e.born]) clock))) { w1 with heap := w1.heap.setIfInBounds b (.mapIter (some bm) clock (seen.toArray.push e.born) clock) } :=
   ⟨q2, q1, by simp, fun _ _ => rfl, fun i hi => ⟨Z48 (y := .mk) hoj (by intro e; cases e) _ hi, fun _ e => e⟩⟩
  refine hn F μ _ _ s.dfs _ _ _ hst (hst.adr hr he.dfs) (Zuy (Z3d rfl) ?_ (.cl _ _ y3)) (h1 i e.born _ hci (List.getElem?_eq_getElem hlt) (fun hc => by rw [(hcont _).2 hc] at hns; cases hns) y2);rw [y1]; exact Zh4 kn _ y2
theorem Zpy {o : Oper} {K : D -> List Blk -> List AD -> Prop} {X : D -> List Blk -> Prop} {x : Operand} {j k kn clock i c : Nat} {ents : List (List Int × D)} {bs seen : List Nat} {e : List Int × D} (ho : o.op = .entry x) (hx : evo s.env x = some (.b j 0))
  (hj : Z1m s.H j = some (.ob (.mi k clock (seen ++ [c]) clock))) (hk : Z1m s.H k = some (.ob (.mpx kn ents bs clock))) (hc : bs[i]? = some c) (hent : ents[i]? = some e)
  (h : K (.tup [Zfm kn e.1, e.2]) s.H s.dfs) : OpA P r o s K X := by
 refine ⟨fun F μ a w hr he next Q hn _ => ?_⟩;obtain ⟨b, mb, hav, hμj⟩ := Zoh he hx;have hoj := Z42 hj;have hok := Z42 hk;obtain ⟨b', bm, m', i1, i2, i3, i4⟩ := hr.obj _ _ hoj (by rw [hμj]; simp);rw [hμj] at i1; cases i1;obtain ⟨bm', es, k1, k2, k3, k4, k5, k6, k7, k8⟩ := hr.obj _ _ hok (by rw [i2]; simp);rw [i2] at k1; cases k1;have hlt : i < es.size := by rw [k3]; exact (List.getElem?_eq_some_iff.1 hent).1
 have hei : es[i]? = some es[i] := Array.getElem?_eq_getElem hlt;have hborn : es[i].born = c := by rw [<- k4] at hc; simpa [hei] using hc
 obtain ⟨y1, y2, y3⟩ := k7 i _ _ hei hent;have hnd : (es.toList.map (·.born)).Nodup := by rw [k4]; exact k6
 have hf : es.find? (·.born == c) = some es[i] := by rw [<- Array.find?_toList, <- hborn]; exact find_born _ es.toList hnd (by simp)
 rw [Oper.semAt_eq r a.eval o (fun c e => by rw [ho] at e; cases e)];have hrun : (Instr.entry (.pointer (some ⟨b, 0, none⟩))).run P w = .ok (.tuple #[es[i].key, es[i].val]) w := by
  have hback : (seen ++ [c]).toArray.back? = some c := by simp
  simp only [Instr.entry, getObj, Sem.run_bind, Sem.run, i3, k2, Result.andThen, hback, bne_self_eq_false, Bool.false_eq_true, if_false, hf];rfl
 have hex : (execOp a.eval o).run P w = .ok (.value (.tuple #[es[i].key, es[i].val])) w := by
  unfold execOp;rw [ho];simp only [hav, Sem.run_bind, hrun, Result.andThen_ok, Sem.run_pure]
 rw [hex, Oper.uponIn_value];refine hn F μ s.H w s.dfs _ _ _ (Stp.refl hr) he.dfs (Zux ?_ (.cl _ _ y3)) h;rw [y1]; exact Zh4 kn _ y2
theorem Zms {K : St -> Prop} {k kn clock : Nat} {ents : List (List Int × D)} {bs : List Nat} (hk : Z1m s.H k = some (.ob (.mpx kn ents bs clock))) (hh : GS m K { s with H := s.H.set k (.ob (.mp kn ents)) }) : GS m K s :=
 Z4i (s' := { s with H := s.H.set k (.ob (.mp kn ents)) }) (fun F μ a w h => by
  have hob := Z42 hk
  by_cases hn : μ k = none
  ·
   refine ⟨F, μ, ?_⟩
   have hkl := Z2p hob
   have hset : ∀ j, (s.H.set k (Blk.ob (.mp kn ents)))[j]? = if j = k then some (Blk.ob (.mp kn ents)) else s.H[j]? := fun j => by
    have := Z2m (H := s.H) (Blk.ob (.mp kn ents)) (Nat.le_of_lt hkl) j
    rwa [Z4l, if_pos hkl] at this
   have := Z5e (μ' := μ) (w' := w) (H' := s.H.set k (.ob (.mp kn ents))) (fun j => j = k) h.hr (by simp) (fun j hj => by rw [hset, if_neg hj]) (fun j _ => rfl) (fun j b _ => Iff.rfl) (fun _ _ _ h => h) (Nat.le_refl _) rfl rfl rfl
    (fun b' hb' hn => rfl) (fun k' b' hk' _ hf => .inl ⟨k, rfl, Z2j hob, by subst hk'; exact hf⟩) (fun k1 k2 b h1 h2 _ _ _ _ => h1.trans h2.symm)
    (fun k' hk' hle' => by subst hk'; simp at hle'; omega) (fun _ k' sz1 es1 hk' hb1 hne => by subst hk'; exact absurd hn hne) (fun k' z hk' hb1 b => by subst hk'; rw [Z1s (by rw [hset, if_pos rfl])] at hb1; cases hb1)
    (fun _ k' z hk' hz hnv => by
     subst hk'
     rw [Z19 (by rw [hset, if_pos rfl])] at hz; cases hz
     exact absurd hn hnv) (fun k' hk' he => by subst hk'; exact h.hr.non _ hn) (fun k' z hk' hz => by
     subst hk'; rw [hset, if_pos rfl] at hz; cases hz; exact fun _ _ e => by cases e)
   exact ⟨this.2.1, .ob (fun i hi => Z48 (y := .mk) hob (by intro e; cases e) _ hi), ⟨this.1, ⟨h.er.env, h.er.nt, h.er.dfs.mono (fun _ _ _ e => e) (fun _ _ e => e) (fun j hj => ⟨Z48 (y := .mk) hob (by intro e; cases e) _ hj, fun _ e => e⟩)⟩, by simpa using h.len⟩⟩
  ·obtain ⟨b, es, k1, k2, k3, k4, k5, k6, k7, k8⟩ := h.hr.obj _ _ hob hn
   have hlt : ∀ (i : Nat) (e : MapEntry), es[i]? = some e -> bs[i]? = some e.born := fun i e he => by rw [<- k4]; simp [he]
   obtain ⟨q1, q2⟩ := Zbc h.hr (y := .mp kn ents) (o := .map es clock) hob k1 k8 (w' := w) (Zkh k2) rfl rfl rfl (fun hb => ⟨b, es, clock, k1, hb, k3, fun i e he => k5 _ (List.mem_of_getElem? (hlt i e he)), fun i j e e' he he' hbb => by
    have h1 := hlt i e he
    have h2 := hlt j e' he'
    rw [<- hbb] at h2
    obtain ⟨hi, g1⟩ := List.getElem?_eq_some_iff.1 h1
    obtain ⟨hj, g2⟩ := List.getElem?_eq_some_iff.1 h2
    exact (List.getElem_inj k6).1 (g1.trans g2.symm), k7, k8⟩)
   exact ⟨F, μ, q2, .ob (fun i hi => Z48 (y := .mk) hob (by intro e; cases e) _ hi), ⟨q1, ⟨h.er.env, h.er.nt, h.er.dfs.mono (fun _ _ _ e => e) (fun _ _ e => e) (fun j hj => ⟨Z48 (y := .mk) hob (by intro e; cases e) _ hj, fun _ e => e⟩)⟩, by simpa using h.len⟩⟩) hh
theorem Zmt (hT : TOK P T) {o : Oper} {K : D -> List Blk -> List AD -> Prop} {X : D -> List Blk -> Prop} {x : Operand} {t kt et : TypeId} {k kn : Nat} {ents : List (List Int × D)} (ho : o.op = .call { callee := .builtin .len, args := #[x], argTypes := #[t] })
  (hu : P.underlying t = some (.map kt et)) (hx : evo s.env x = some (.mv k)) (hk : Z1m s.H k = some (.ob (.mp kn ents))) (h : K (.v (.int .i64 ents.length)) s.H s.dfs) : OpA P r o s K X := by
 refine ⟨fun F μ a w hr he next Q hn _ => ?_⟩;have hxv := he.evo hx;obtain ⟨b, mm, hav, hμ⟩ : ∃ b m, a.eval x = .map (some b) /\ μ k = some (some (b, m)) := by
  generalize a.eval x = v at hxv
  cases hxv with | cl _ _ hc => cases hc | mv _ b m hμ => exact ⟨b, m, rfl, hμ⟩
 obtain ⟨b', es, clock, o1, o2, o3, -⟩ := hr.obj _ _ (Z42 hk) (by rw [hμ]; simp);rw [hμ] at o1; cases o1;have hgo : (getObj b).run P w = .ok (.map es clock) w := by simp [getObj, Sem.run, o2]
 rw [Oper.semAt_eq r a.eval o (fun c e => by rw [ho] at e; cases e)];have hex : (execOp a.eval o).run P w = .ok (.value (.int .i64 ents.length)) w := by
  unfold execOp;rw [ho];have e : Array.map a.eval #[x] = #[a.eval x] := by simp
  simp only [resolve, Sem.run_bind, Sem.run_pure, Result.andThen_ok, invoke, builtin, e, hav];simp [Builtin.len_, run_underlying hu w, hgo, goInt, o3]
 rw [hex, Oper.uponIn_value];exact hn F μ s.H w s.dfs _ _ _ (Stp.refl hr) he.dfs (.cl _ _ (.v _ rfl)) h
theorem Z2g {S : Stop} (hS : S = Zo P r m) {i : Nat} {l : List Nat} {o : Oper} (hoi : ops[i]? = some o) (hd : Z36 s.nt o.dst = true) (hg : o.guard = none)
  (h : OpA P r o s (fun d H' ds => OpsA P r m ops Q l (s.step o.dst d H' ds)) (fun d H' => ∀ e, (∀ t d, Z1c e t = some d -> Z1c s.env t = some d) -> Q (.pan d) { s with env := e, H := H' })) : S.ops ops Q (i :: l) s := by
 subst hS;refine Z3k hoi hd ?_;simp only [Zh, hg];exact h
end
end Go.Abs

namespace Go.Abs
open Go
def Zsd (F : Fz) (μ : Mu) : Option D -> FrameMode -> Prop
 | none, md => md = .returning
 | some d, md => ∃ v, md = .panicking [{ v := v, recovered := false }] /\ VR F μ d v
structure CallD (P : Program) (f : FuncId) (as : List D) (H : List Blk) (u : Option D) (Q : List Blk -> Prop) : Prop where
 fn : ∃ fn, P.funcs[f]? = some fn /\ fn.body.isSome = true /\ (fn.name == "runtime.NumGoroutine") = false
 out : ∀ F μ (vs : Array Value) w md, HR F μ H w -> as.length = vs.size -> (∀ (i : Nat) (d : D) (v : Value), as[i]? = some d -> vs[i]? = some v -> VR F μ d v) -> Zsd F μ u md ->
  CallsDIn (Fc none) 0 P f vs md w fun e u' w' => (∃ v, e = .returned v) /\ settle u' = .returning /\ ∃ F' μ' H', Stp F μ H w F' μ' H' w' /\ Q H'
structure LeaveD (P : Program) (T : TT) (rs : List ResultVar) (Q : RA -> List Blk -> Prop) (u : Option D) (s : St) : Prop where
 out : ∃ g caps as as' ix Hf, s.dfs = [.fn g caps as] /\ renL (rho ix s.H.length) as' = as ++ caps /\ ix.Nodup /\ Z62 (rho ix s.H.length) s.H ix Hf /\ (∀ d, u = some d -> frD d = true) /\
  CallD P g as' Hf u (fun Hf' => Zih ar T { s with H := Z10 s.H ix Hf', dfs := [] } (fun d => Q (.ret d) (Z10 s.H ix Hf')) rs)
def Zxm (P : Program) (T : TT) (rs : List ResultVar) (Q : RA -> List Blk -> Prop) : AX -> St -> Prop
 | .normal, s => LeaveD P T rs Q none s
 | .ret, s => LeaveD P T rs Q none s
 | .pan d, s => LeaveD P T rs Q (some d) s
 | _, _ => False
section
variable {P : Program} {T : TT} {F : Fz} {μ : Mu} {w : World} {r : Option Nat} {m : Nat} {ops : Array Oper} {Q : AX -> St -> Prop} {s : St}
theorem Zaf {o : Oper} {K : D -> List Blk -> List AD -> Prop} {X : D -> List Blk -> Prop} {x : Operand} {t : TypeId} {d : D} (ho : o.op = .panic x) (hx : evo s.env x = some (.ifc t d)) (h : X (.ifc t d) s.H) : OpA P r o s K X := by
 refine ⟨fun F μ a w hr he next Q hn hp => ?_⟩;have hv := he.evo hx;obtain ⟨v, hav, -⟩ := hv.ifc_inv;rw [Oper.semAt_eq r a.eval o (fun c e => by rw [ho] at e; cases e)];have hex : (execOp a.eval o).run P w = .halt (.panic (.iface t v)) w := by
  unfold execOp;rw [ho];simp only [hav, Instr.panic, goPanic, Sem.run_bind];rfl
 rw [hex];show Q (.panic [{ v := .iface t v, recovered := false }]) a w;rw [hav] at hv;exact hp F μ s.H w _ _ (Stp.refl hr) hv h
theorem Zpz {o : Oper} {K : D -> List Blk -> List AD -> Prop} {X : D -> List Blk -> Prop} {c : Call} {fo : Operand} {f : FuncId} {caps as : List D} (ho : o.op = .defer c) (hc : c.callee = .value fo) (hfo : evo s.env fo = some (.fn f caps))
  (has : Z34 (c.args.toList.map (evo s.env)) = some as) (h : K (.tup []) s.H (.fn f caps as :: s.dfs)) : OpA P none o s K X := by
 refine ⟨fun F μ a w hr he next Q hn hp => ?_⟩;have hfv := he.evo hfo;have fnv : ∀ y, VR F μ (.fn f caps) y -> ∃ caps' : Array Value, y = .func (.func f) #[] caps' /\ caps.length = caps'.size /\ ∀ (i : Nat) (c : D) (v : Value), caps[i]? = some c -> caps'[i]? = some v -> VR F μ c v := fun y hfv => by
  cases hfv with
  | cl _ _ hc => cases hc with | fn _ _ vs hl h => exact ⟨vs, rfl, hl, fun i c v h1 h2 => .cl _ _ (h i c v h1 h2)⟩
  | fn _ _ vs hl h => exact ⟨vs, rfl, hl, h⟩
 obtain ⟨caps', hfe, hcl, hcv⟩ := fnv _ hfv;have hav := Zjr he has;have hex : (Oper.semAt none a.eval o).run P w = .ok (.defer { target := .fn (.func f) caps', args := c.args.map a.eval }) w := by
  rw [Oper.semAt_none];unfold execOp;rw [ho];simp only [resolve, hc, hfe, Deferred.ofValue, Sem.run_bind, Sem.run_pure, Result.andThen_ok, Array.empty_append]
 rw [hex, Oper.uponIn_defer];have hlen : as.length = (c.args.map a.eval).size := by have := hav.len; simpa using this
 exact hn F μ s.H w (.fn f caps as :: s.dfs) _ (.tup []) undef (Stp.refl hr) ⟨caps', _, a.defers, rfl, ⟨hcl, hcv⟩, ⟨hlen, fun i d v h1 h2 => hav.get i d v h1 (by simpa [<- Array.getElem?_toList] using h2)⟩, he.dfs⟩ Z5h h
theorem Zki (hT : TOK P T) {f : FuncId} {fn : Func} {c : Code} (hf : P.funcs[f]? = some fn) (hb : fn.body = some c) (hnm : (fn.name == "runtime.NumGoroutine") = false) {as : List D} {H : List Blk} {Q : RA -> List Blk -> Prop} (hnt : Nat.ble as.length fn.ntmps = true)
  (h : WpA P none H.length c (Zxm P T fn.results.toList Q) { env := Zd6 0 as, H := H, nt := fn.ntmps, dfs := [] }) : CallA P f as H Q := by
 refine ⟨⟨fn, hf, by rw [hb]; rfl, hnm⟩, fun F μ vs w hr hl hv => ?_⟩;have hle := Nat.le_of_ble_eq_true hnt;refine callsIn_of_wp_defers hf hb trivial (wpIn_mono (h.out F μ _ w ⟨hr, ⟨fun t d ht => ?_, ?_, rfl⟩, Nat.le_refl _⟩) fun e a' w' hp => ?_)
 ·obtain ⟨-, h2⟩ := Z9h 0 as t d ht;rw [Nat.sub_zero] at h2;have hlt : t < vs.size := by rw [<- hl]; exact (List.getElem?_eq_some_iff.1 h2).1
  refine ⟨vs[t], ?_, hv t d _ h2 (Array.getElem?_eq_getElem hlt)⟩;rw [Array.getElem?_append_left hlt, Array.getElem?_eq_getElem hlt]
 ·simp; omega
 ·obtain ⟨F', μ', s', x, p1, p2, p3, p4, p5⟩ := hp;have hs : Stp F μ H w F' μ' s'.H w' := ⟨p1, p3.hr, p3.len, p2.same, fun k hk => p2.mks k (Z2p hk) hk⟩;have fin : ∀ (u : Option D) (md : FrameMode), LeaveD P T fn.results.toList Q u s' -> md ≠ .run -> (∀ {ix : List Nat}, (∀ d, u = some d -> frD d = true) -> Zsd F' (μ'.ren (rho ix s'.H.length)) u md) ->
    LeavesIn (Fc none) 0 P fn a'.tmps (Zb7 F μ H w Q) a'.defers md w' := fun u md hld hmd hmode => by
   obtain ⟨g, caps, as1, as', ix, Hf, e1, e2, e3, e4, e5, e6⟩ := hld.out;have hds := p3.er.dfs;rw [e1] at hds;obtain ⟨cv, av, ds', d1, ⟨d2, d2'⟩, ⟨d3, d3'⟩, d4⟩ := hds
   replace d4 : ds' = [] := d4
   subst d4;rw [d1];have hlent : Lent s'.H ix Hf := ⟨e3, (Z11 e4).1, (Z11 e4).2, Zab (Z11 e4).1 (Z11 e4).2 p3.hr⟩;obtain ⟨gn, g1, g2, g3⟩ := e6.fn;have hcall := e6.out F' (μ'.ren (rho ix s'.H.length)) (av ++ cv) w' md (Zac hlent p3.hr) (by
     have h1 := congrArg List.length e2
     rw [Zk] at h1
     rw [h1]; simp; omega) (fun i d v hd hv => by
     have h1 : (as1 ++ caps)[i]? = some (renD (rho ix s'.H.length) d) := by rw [<- e2, Z1g, hd]; rfl
     refine Z2x ?_ d rfl
     by_cases hi : i < as1.length
     ·rw [List.getElem?_append_left hi] at h1
      rw [Array.getElem?_append_left (by omega)] at hv
      exact d3' i _ v h1 hv
     ·rw [List.getElem?_append_right (by omega)] at h1
      rw [Array.getElem?_append_right (by omega)] at hv
      refine d2' (i - as1.length) _ v h1 ?_
      rw [<- hv]; congr 1; omega) (hmode e5)
   refine leavesIn_cons (f := g) (args := av ++ cv) hmd (fun h => by cases h) ?_ (fun _ _ => trivial) (hcall.mono fun e u' w'' he => ?_)
   ·show (callFunc g (av ++ cv)).run P w' = _;exact Z8m g1 g2 g3 _ _
   ·obtain ⟨⟨v, rfl⟩, hset, F2, μ2, H2, hstp, hq⟩ := he;show LeavesIn (Fc none) 0 P fn a'.tmps (Zb7 F μ H w Q) [] (settle u') w'';rw [hset];have hst := Z6q hlent p3.hr hstp;obtain ⟨d, v, r1, r2, r3⟩ := Zbi (s := { s' with H := Z10 s'.H ix H2, dfs := [] }) (a := { a' with defers := [] }) hT hst.hr ⟨fun t x ht => let ⟨y, y1, y2⟩ := p3.er.env t x ht; ⟨y, y1, hst.vr p3.hr y2⟩, p3.er.nt, rfl⟩ hq;exact ⟨v, r1, F2, _, _, d, hs.trans hst, r2, r3⟩
  cases e <;> cases x <;> try exact p4.elim
  case normal.normal => exact fin none .returning p5 (by simp) (fun _ => rfl)
  case ret.ret => exact fin none .returning p5 (by simp) (fun _ => rfl)
  case panic.pan ch d =>
   obtain ⟨v, rfl, g2⟩ := p4;exact fin (some d) _ p5 (by simp) (fun hfr => ⟨v, rfl, .cl _ _ (Zgo g2 (hfr d rfl))⟩)
  all_goals exact p5.elim
end
end Go.Abs

/- Part TxAV of the proofs about the benches of the accordion maker: see the last text of the claim for what is proved. -/
import Derived.Laws.IdiomRangeMap
import Derived.Test.YtggilmnhgjofiaaGreatTxAU
import Derived.Test.YtggilmnhgjofiaaGreatTxAS
set_option linter.unusedVariables false
set_option linter.unusedSimpArgs false
set_option linter.unnecessarySimpa false
set_option linter.constructorNameAsVariable false

namespace Go.Abs
open Go
section
variable {P : Program} {T : TT} {r : Option Nat} {m : Nat} {Q : AX -> St -> Prop} {F : Fz} {μ : Mu} {w : World} {K : St -> Prop} {s : St}
end
end Go.Abs

namespace Go.Abs
open Go
section
variable {P : Program} {T : TT} {F : Fz} {μ : Mu} {w : World}
theorem Z23d (kg j n : Nat) {H : List Blk} {isz : Nat} {row : List D} {x : Value} {ents : List Ent} (hr : HR F μ H w) (hg : Z1m H kg = some (.ob (.gr isz ents))) (hj : ents[j]? = some (x, some row)) :
  ∃ (b0 cap : Nat) (c0 : Array Value) (t0 : TypeId) (μ' : Mu), x = .slice (some ⟨b0, 0, none⟩) row.length cap /\ row.length <= cap /\ cap * isz <= c0.size /\ w.heap[b0]? = some (.cells c0 t0 (0, 0)) /\ Z1l F μ isz row c0 /\ FrL row /\
   HR F μ' (H.set kg (.ob (.gr isz (ents.set j (x, none)))) ++ [.els isz (row.take n)]) w /\ Post F μ H w F μ' (H.set kg (.ob (.gr isz (ents.set j (x, none)))) ++ [.els isz (row.take n)]) w /\
   (∀ a y, μ a = some y -> μ' a = some y) /\ (∀ a, a < H.length -> μ' a = μ a) /\ μ' H.length = some (some (b0, c0.size)) /\ Mks μ H μ' (H.set kg (.ob (.gr isz (ents.set j (x, none)))) ++ [.els isz (row.take n)]) := by
 have bg : Z13 H kg = some (.gr isz ents) := by rw [Z1u] at hg; rw [Z19 hg]; rfl
 have lg := Z2p bg;obtain ⟨o1, loc, o2, o3⟩ := hr.obj kg _ bg trivial;obtain ⟨c0, t0, cap, p1, p2, p3, p4, p5, p6, p7⟩ := o2 j x row hj;obtain ⟨L, hL⟩ : ∃ L, L = H.length := ⟨_, rfl⟩;have ng : kg ≠ L := by omega
 have hLn : μ L = none := hr.dom _ (by omega)
 let μ' : Mu := ⟨fun a => if a = L then some (some (loc j, c0.size)) else μ a, fun a b => if a = kg then μ.inn kg b /\ b ≠ loc j else μ.inn a b⟩
 have m1 : ∀ a, a ≠ L -> μ' a = μ a := fun a ha => by show (if a = L then _ else _) = _; rw [if_neg ha]
 have m2 : μ' L = some (some (loc j, c0.size)) := by show (if L = L then _ else _) = _; rw [if_pos rfl]
 have m3 : ∀ a b, a ≠ kg -> (μ'.inn a b ↔ μ.inn a b) := fun a b ha => by show (if a = kg then _ else _) ↔ _; rw [if_neg ha]
 have m4 : ∀ b, μ'.inn kg b ↔ (μ.inn kg b /\ b ≠ loc j) := fun b => by show (if kg = kg then _ else _) ↔ _; rw [if_pos rfl]
 obtain ⟨H', hH'⟩ : ∃ H' : List Blk, H' = H.set kg (.ob (.gr isz (ents.set j (x, none)))) ++ [.els isz (row.take n)] := ⟨_, rfl⟩;rw [<- hH'];have hlen : H'.length = L + 1 := by rw [hH', hL]; simp
 have hget : ∀ a, H'[a]? = if a = kg then some (.ob (.gr isz (ents.set j (x, none)))) else if a = L then some (.els isz (row.take n)) else H[a]? := fun a => by
  rw [hH']
  by_cases hlt : a < H.length
  ·rw [List.getElem?_append_left (by simpa using hlt)];simp only [List.getElem?_set]
   by_cases a2 : a = kg
   ·subst a2; simp [lg]
   ·have a2' : ¬ kg = a := fun e => a2 e.symm;have a3 : a ≠ L := by omega
    simp only [if_neg a2, if_neg a2', if_neg a3]
  ·have a2 : a ≠ kg := by omega
   rw [if_neg a2, List.getElem?_append_right (by simp; omega)]
   by_cases a3 : a = L
   ·subst a3; rw [if_pos rfl, hL]; simp
   ·rw [if_neg a3, List.getElem?_eq_none (by simp; omega), List.getElem?_eq_none (by omega)]
 have gg := hget kg; rw [if_pos rfl] at gg;have gd := hget L; rw [if_neg (Ne.symm ng), if_pos rfl] at gd;have upm : ∀ a y, μ a = some y -> μ' a = some y := fun a y e => by
  by_cases ha : a = L
  ·subst ha; rw [hLn] at e; cases e
  ·rw [m1 a ha]; exact e
 have fg : ∀ b, Z40 μ' kg b -> μ.inn kg b /\ b ≠ loc j := fun b hb => by
  rcases hb with ⟨M, hM⟩ | hb
  ·rw [m1 kg ng, o1] at hM; cases hM
  ·exact (m4 b).1 hb
 have fL : ∀ b, Z40 μ' L b -> b = loc j := fun b hb => by
  rcases hb with ⟨M, hM⟩ | hb
  ·rw [m2] at hM; cases hM; rfl
  ·exact absurd ((m3 L b (Ne.symm ng)).1 hb) (hr.non _ hLn b)
 have eC : ∀ a, ¬ (a = kg ∨ a = L) -> a ≠ kg /\ a ≠ L := fun a h => ⟨fun e => h (.inl e), fun e => h (.inr e)⟩;have r : HR F μ' H' w /\ Post F μ H w F μ' H' w /\ ∀ j y, μ j = some y -> μ' j = some y := by
  refine Z5e (μ' := μ') (w' := w) (H' := H') (fun a => a = kg ∨ a = L) hr (by omega) (fun a ha => by
   obtain ⟨n2, n3⟩ := eC a ha
   rw [hget, if_neg n2, if_neg n3]) (fun a ha => m1 a (eC a ha).2) (fun a b ha => m3 a b (eC a ha).1) (fun a _ y e => upm a y e) (Nat.le_refl _) rfl rfl rfl (fun _ _ _ => rfl) (fun a b ha hl hft => ?_) (fun a a' b ha ha' hl hl' h4 h5 => ?_) (fun a ha hle => ?_) (fun _ a sz1 es1 ha hb1 hne => ?_) (fun a y ha hb1 b => ?_) (fun hmono a y ha hy _ => ?_) (fun a ha he b => ?_) (fun a y ha hy => ?_)
  ·rcases ha with rfl | rfl
   ·exact .inl ⟨a, .inl rfl, Z2j bg, .inr (fg b hft).1⟩
   ·exact .inl ⟨kg, .inl rfl, Z2j bg, .inr (by rw [fL b hft]; exact p7)⟩
  ·rcases ha with rfl | rfl <;> rcases ha' with rfl | rfl
   ·rfl
   ·exact ((fg b h4).2 (fL b h5)).elim
   ·exact ((fg b h5).2 (fL b h4)).elim
   ·rfl
  ·rcases ha with rfl | rfl <;> omega
  ·rcases ha with rfl | rfl
   ·rw [Z1s gg] at hb1; cases hb1
   ·rw [Z1s gd] at hb1; cases hb1;refine .inr ⟨_, _, c0, t0, m2, p4, rfl, Nat.le_trans (Nat.mul_le_mul_right _ (Nat.le_trans (by simp; omega : (row.take n).length <= row.length) p2)) p3, fun i e he => ?_⟩;have he' : row[i]? = some e := by
     rw [List.getElem?_take] at he
     split at he
     ·exact he
     ·cases he
    exact (p5.mono (fun _ _ _ e => e) upm) i e he'
  ·rcases ha with rfl | rfl
   ·rw [Z1s gg] at hb1; cases hb1
   ·rw [m3 a b (Ne.symm ng)]; exact hr.non _ hLn b
  ·rcases ha with rfl | rfl
   ·rw [Z19 gg] at hy; cases hy;have hent : ∀ (n : Nat) (e : Value) (row1 : List D), (ents.set j (x, none))[n]? = some (e, some row1) -> n ≠ j /\ ents[n]? = some (e, some row1) := fun n e row1 he => by
     rw [List.getElem?_set] at he
     split at he
     ·split at he <;> cases he
     ·rename_i hne; exact ⟨fun e => hne e.symm, he⟩
    refine ⟨by rw [m1 a ng]; exact o1, loc, fun n e row1 he => ?_, fun n n' e e' row1 row2 he he' hh => o3 n n' _ _ _ _ (hent _ _ _ he).2 (hent _ _ _ he').2 hh⟩;obtain ⟨hn, he⟩ := hent n e row1 he;obtain ⟨c2, t2, cap2, g1, g2, g3, g4, g5, g6, g7⟩ := o2 n e row1 he;exact ⟨c2, t2, cap2, g1, g2, g3, g4, g5.mono (fun _ _ _ e => e) upm, g6, (m4 _).2 ⟨g7, fun e0 => hn (o3 n j _ _ _ _ he hj e0)⟩⟩
   ·rw [Z19 gd] at hy; cases hy
  ·rcases ha with rfl | rfl
   ·rw [m1 a ng, o1] at he; cases he
   ·rw [m2] at he; cases he
  ·rcases ha with rfl | rfl
   ·rw [gg] at hy; cases hy; exact fun _ _ e => by cases e
   ·rw [gd] at hy; cases hy; exact fun _ _ e => by cases e; exact ⟨fun d hd => p6.out d (List.mem_of_mem_take hd)⟩
 obtain ⟨r1, r2, r3⟩ := r;refine ⟨loc j, cap, c0, t0, μ', p1, p2, p3, p4, p5, p6, r1, r2, r3, fun a ha => m1 a (by omega), by rw [<- hL]; exact m2, fun a ha => ?_⟩;have n2 : a ≠ kg := by rintro rfl; rw [ha] at bg; cases bg
 have la := Z2p ha;refine ⟨?_, fun b hb => (m3 a b n2).2 hb⟩;unfold Z13 at ha ⊢;rw [hget, if_neg n2, if_neg (by omega)]; exact ha
end
section
variable {P : Program} {T : TT} {r : Option Nat} {K : D -> List Blk -> List AD -> Prop} {X : D -> List Blk -> Prop} {s : St} {o : Oper}
end
end Go.Abs

namespace Go.Abs
open Go
def Zfm (kn : Nat) (l : List Int) : D := match kn with | 0 => .v (.int .i64 (l.headD 0)) | _ + 1 => .agg (l.map (fun x => .v (.int .i64 x)))
section
variable {P : Program} {T : TT} {F : Fz} {μ : Mu} {w : World} {r : Option Nat} {m : Nat} {ops : Array Oper} {Q : AX -> St -> Prop} {s : St}
theorem Zh4 (kn : Nat) (l : List Int) (hl : l.length = Nat.max 1 kn) : VR F μ (Zfm kn l) (Z1k (kn != 0) l) := by
 cases kn with
 | zero => exact .cl _ _ (.v _ rfl)
 | succ n =>
  show VR F μ (.agg (l.map (fun x => .v (.int .i64 x)))) (.agg (l.map (Value.int .i64)).toArray);refine .cl _ _ (.agg _ _ (by simp) (fun i c v h1 h2 => ?_) (fun i v h2 => ?_))
  ·simp only [List.getElem?_map, Option.map_eq_some_iff] at h1;simp only [List.getElem?_toArray, List.getElem?_map, Option.map_eq_some_iff] at h2;obtain ⟨x, hx, rfl⟩ := h1;obtain ⟨y, hy, rfl⟩ := h2;rw [hx] at hy; cases hy;exact .v _ rfl
  ·simp only [List.getElem?_toArray, List.getElem?_map, Option.map_eq_some_iff] at h2;obtain ⟨y, hy, rfl⟩ := h2;rfl
theorem Zkh {w : World} {b : Nat} {o : Obj} (h : w.heap[b]? = some o) : w.heap = w.heap.setIfInBounds b o := by
 apply Array.ext_getElem?
 intro j;rw [Array.getElem?_setIfInBounds]
 split
 ·rename_i e; subst e
  have hlt := (Array.getElem?_eq_some_iff.1 h).1;rw [if_pos hlt]; exact h
 ·rfl
theorem Z6t {o : Oper} {K : D -> List Blk -> List AD -> Prop} {X : D -> List Blk -> Prop} (hT : TOK P T) {t : TypeId} {x : Operand} {k kn : Nat} {ee : TE} {ents : List (List Int × D)} (ho : o.op = .range t x) (hx : evo s.env x = some (.mv k))
  (hk : Z1m s.H k = some (.ob (.mp kn ents))) (hmt : Zc3 T t = some (kn, ee))
  (h : ∀ bs clock, bs.length = ents.length -> bs.Nodup -> (∀ c ∈ bs, c < clock) -> K (.b s.H.length 0) (s.H.set k (.ob (.mpx kn ents bs clock)) ++ [.ob (.mi k clock [] clock)]) s.dfs) : OpA P r o s K X := by
 refine ⟨fun F μ a w hr he next Q hn _ => ?_⟩;obtain ⟨kt, et, hu, -⟩ := Z7d hT hmt;have hxv := he.evo hx;obtain ⟨b, mm, hav, hμ⟩ : ∃ b m, a.eval x = .map (some b) /\ μ k = some (some (b, m)) := by
  generalize a.eval x = v at hxv
  cases hxv with | cl _ _ hc => cases hc | mv _ b m hμ => exact ⟨b, m, rfl, hμ⟩
 have hob := Z42 hk;obtain ⟨b', es, clock, o1, o2, o3, o4, o5, o6, o7⟩ := hr.obj _ _ hob (by rw [hμ]; simp);rw [hμ] at o1; cases o1
 let bs : List Nat := es.toList.map (·.born)
 have hlen : bs.length = ents.length := by simp [bs, o3]
 have hget : ∀ (i c : Nat), bs[i]? = some c -> ∃ e : MapEntry, es[i]? = some e /\ e.born = c := fun i c hi => by
  have hi' : (es.toList.map (·.born))[i]? = some c := hi;rw [List.getElem?_map, Option.map_eq_some_iff] at hi';obtain ⟨e, h1, h2⟩ := hi';exact ⟨e, by rw [<- Array.getElem?_toList]; exact h1, h2⟩
 have hnd : bs.Nodup := by
  rw [List.nodup_iff_pairwise_ne, List.pairwise_iff_getElem];intro i j hi hj hij e;obtain ⟨e1, h1, h2⟩ := hget i _ (List.getElem?_eq_getElem hi);obtain ⟨e2, h3, h4⟩ := hget j _ (List.getElem?_eq_getElem hj);have := o5 i j e1 e2 h1 h3 (by rw [h2, h4, e]);omega
 have hlt : ∀ c ∈ bs, c < clock := fun c hc => by
  obtain ⟨i, hi⟩ := List.mem_iff_getElem?.1 hc;obtain ⟨e, h1, h2⟩ := hget i c hi;rw [<- h2]; exact o4 i e h1
 obtain ⟨q1, q2⟩ := Zbc hr (y := .mpx kn ents bs clock) (o := .map es clock) hob hμ o7 (w' := w) (Zkh o2) rfl rfl rfl (fun hb => ⟨b, es, hμ, hb, o3, rfl, hlt, hnd, o6, o7⟩);have hst1 : Stp F μ s.H w F μ (s.H.set k (.ob (.mpx kn ents bs clock))) w := ⟨q2, q1, by simp, fun _ _ => rfl, fun i hi => ⟨Z48 (y := .mk) hob (by intro e; cases e) _ hi, fun _ e => e⟩⟩;have hsz : (s.H.set k (.ob (.mpx kn ents bs clock))).length = s.H.length := by simp
 obtain ⟨u1, u2, u3⟩ := Zjj q1 (x := .mi k clock [] clock) (o := .mapIter (some b) clock #[] clock) (by intro e; cases e) (fun hb hm => ⟨w.heap.size, b, 0, Z2f _ _ _, hm _ _ hμ, hb, fun c hc => hr.non _ (hr.dom _ (by rw [hsz]; exact Nat.le_refl _)) c hc⟩);rw [hsz] at u1 u2 u3;have hst2 : Stp F μ (s.H.set k (.ob (.mpx kn ents bs clock))) w F (Z4v μ s.H.length (some (w.heap.size, 0))) (s.H.set k (.ob (.mpx kn ents bs clock)) ++ [.ob (.mi k clock [] clock)]) (w.alloc (.mapIter (some b) clock #[] clock)) :=
  ⟨u2, u1, by simp, fun j hj => by rw [Z2k _ (by rw [hsz] at hj; omega)], .app _ _ _ _ _⟩
 have hst := hst1.trans hst2;have hrun := run_range_map (P := P) w t kt et b es clock hu o2;refine ⟨Z1ve (fun c => by rw [ho]; simp) (by rw [ho]; rfl), ?_⟩;rw [Oper.semAt_eq r a.eval o (fun c e => by rw [ho] at e; cases e)];have hex : (execOp a.eval o).run P w = .ok (.value (.pointer (some ⟨w.heap.size, 0, none⟩))) (w.alloc (.mapIter (some b) clock #[] clock)) := by
  unfold execOp;rw [ho];simp only [hav, Sem.run_bind, hrun, Result.andThen_ok, Sem.run_pure]
 rw [hex, Z1uq];exact hn F _ _ _ s.dfs _ _ _ hst (hst.adr hr he.dfs) (.b _ 0 _ _ (Z2f _ _ _)) (h bs clock hlen hnd hlt)
theorem Zuw {d : D} {v : Value} (h : VR F μ d v) : VR F μ (.tup [d]) (.tuple #[v]) := .tup _ _ rfl fun i c u h1 h2 => by
 match i, h1, h2 with
 | 0, h1, h2 => simp at h1 h2; subst h1 h2; exact h
 | n + 1, h1, h2 => simp at h1
theorem Zux {d e : D} {v u : Value} (h : VR F μ d v) (h' : VR F μ e u) : VR F μ (.tup [d, e]) (.tuple #[v, u]) := .tup _ _ rfl fun i c u h1 h2 => by
 match i, h1, h2 with
 | 0, h1, h2 => simp at h1 h2; subst h1 h2; exact h
 | 1, h1, h2 => simp at h1 h2; subst h1 h2; exact h'
 | n + 2, h1, h2 => simp at h1
theorem Zuy {d e f : D} {v u x : Value} (h : VR F μ d v) (h' : VR F μ e u) (h'' : VR F μ f x) : VR F μ (.tup [d, e, f]) (.tuple #[v, u, x]) := .tup _ _ rfl fun i c u h1 h2 => by
 match i, h1, h2 with
 | 0, h1, h2 => simp at h1 h2; subst h1 h2; exact h
 | 1, h1, h2 => simp at h1 h2; subst h1 h2; exact h'
 | 2, h1, h2 => simp at h1 h2; subst h1 h2; exact h''
 | n + 3, h1, h2 => simp at h1
theorem Zoh {a : Act} (he : ER F μ s a) {x : Operand} {j : Nat} (hx : evo s.env x = some (.b j 0)) : ∃ b m, a.eval x = .pointer (some ⟨b, 0, none⟩) /\ μ j = some (some (b, m)) := by
 have hxv := he.evo hx
 generalize a.eval x = v at hxv
 cases hxv with
 | cl _ _ hc => cases hc
 | b _ _ b m hμ => exact ⟨b, m, rfl, hμ⟩
theorem Z7y {o : Oper} {K : D -> List Blk -> List AD -> Prop} {X : D -> List Blk -> Prop} {x : Operand} {j k kn clock : Nat} {ents : List (List Int × D)} {bs seen : List Nat} (ho : o.op = .next x false) (hx : evo s.env x = some (.b j 0))
  (hj : Z1m s.H j = some (.ob (.mi k clock seen clock))) (hk : Z1m s.H k = some (.ob (.mpx kn ents bs clock)))
  (h0 : (∀ c ∈ bs, c ∈ seen) -> K (.tup [.v (.bool false)]) s.H s.dfs)
  (h1 : ∀ (i c : Nat) (e : List Int × D), bs[i]? = some c -> ents[i]? = some e -> c ∉ seen -> e.1.length = Nat.max 1 kn -> K (.tup [.v (.bool true), Zfm kn e.1, e.2]) (s.H.set j (.ob (.mi k clock (seen ++ [c]) clock))) s.dfs) : OpA P r o s K X := by
 refine ⟨fun F μ a w hr he next Q hn _ => ?_⟩;obtain ⟨b, mb, hav, hμj⟩ := Zoh he hx;have hoj := Z42 hj;have hok := Z42 hk;obtain ⟨b', bm, m', i1, i2, i3, i4⟩ := hr.obj _ _ hoj (by rw [hμj]; simp);rw [hμj] at i1; cases i1;obtain ⟨bm', es, k1, k2, k3, k4, k5, k6, k7, k8⟩ := hr.obj _ _ hok (by rw [i2]; simp);rw [i2] at k1; cases k1;have hborn : ∀ x ∈ es.toList, x.born < clock := fun x hx => k5 _ (by rw [<- k4]; exact List.mem_map.2 ⟨x, hx, rfl⟩);refine ⟨Z1ve (fun c => by rw [ho]; simp) (by rw [ho]; rfl), ?_⟩;rw [Oper.semAt_eq r a.eval o (fun c e => by rw [ho] at e; cases e)];have hex : execOp a.eval o = (do let v <- Instr.next (.pointer (some ⟨b, 0, none⟩)) false o.type; pure (.value v)) := by
  unfold execOp;rw [ho];simp only [hav]
 have hcont : ∀ c, seen.toArray.contains c = true ↔ c ∈ seen := fun c => by simp
 have hrun : ((leftOf es seen.toArray).size = 0 /\ (Instr.next (.pointer (some ⟨b, 0, none⟩)) false o.type).run P w = .ok (.tuple #[.bool false]) w) ∨
   ∃ e ∈ (leftOf es seen.toArray).toList, ∃ w1 : World, w1.heap = w.heap /\ w1.tape = w.tape /\ w1.os = w.os /\ w1.output = w.output /\
    (Instr.next (.pointer (some ⟨b, 0, none⟩)) false o.type).run P w = .ok (.tuple #[.bool true, e.key, e.val]) { w1 with heap := w1.heap.setIfInBounds b (.mapIter (some bm) clock (seen.toArray.push e.born) clock) } := by
  simp only [Instr.next, getObj, Sem.run_bind, Sem.run, i3, k2, Result.andThen, next_test_false seen.toArray es clock clock hborn (Nat.le_refl _), Bool.false_eq_true, if_false];unfold leftOf;have hmem : ∀ x ∈ (Array.filter (fun e => !seen.toArray.contains e.born) es).toList, x.born < clock := fun x hx => hborn x (by simp at hx ⊢; exact hx.1)
  generalize Array.filter (fun e => !seen.toArray.contains e.born) es = L at hmem ⊢
  have e1 : L.filter (fun x => decide (x.born < clock)) = L := Array.filter_eq_self.2 (fun x hx => by simpa using hmem x (by simpa using hx));have e2 : L.filter (fun x => decide (x.born ≥ clock)) = #[] := by
   rw [Array.filter_eq_empty_iff];intro x hx;have := hmem x (by simpa using hx);simp;omega
  simp only [e1, e2, Array.append_empty]
  by_cases h0 : L.size = 0
  ·left
   have : L = #[] := Array.eq_empty_of_size_eq_zero h0;subst this;refine ⟨rfl, ?_⟩;simp [choose, Sem.run, Question.forced]
  ·right
   have hne : L.isEmpty = false := by simp [Array.isEmpty, h0]
   simp only [hne, Bool.false_eq_true, if_false, Array.empty_append, Array.size_map];have hch : ∃ (j : Nat) (w1 : World), j < L.size /\ w1.heap = w.heap /\ w1.tape = w.tape /\ w1.os = w.os /\ w1.output = w.output /\ (choose (Question.mapNext L.size)).run P w = .ok j w1 := by
    by_cases hf : L.size <= 1
    ·exact ⟨0, w, by omega, rfl, rfl, rfl, rfl, by simp [choose, Sem.run, Question.forced, hf]⟩
    ·exact ⟨_, w.drew, Nat.mod_lt _ (by omega), rfl, rfl, rfl, rfl, by
      simp only [choose, Sem.run, Question.forced, decide_eq_true_eq, hf, if_false, Question.cut]
      rfl⟩
   obtain ⟨j, w1, hj, g1, g2, g3, g4, hrun⟩ := hch;refine ⟨L[j], by simp, w1, g1, g2, g3, g4, ?_⟩;have hset : ∀ (o' : Obj), (setObj b o').run P w1 = .ok () { w1 with heap := w1.heap.setIfInBounds b o' } := fun o' => by simp [setObj, Sem.run, g1, i3]
   simp only [hrun, Array.getElem?_map, Array.getElem?_eq_getElem hj, Option.map_some, Sem.run_bind, hset, Result.andThen];rfl
 rw [hex];rcases hrun with ⟨g0, g1⟩ | ⟨e, hel, w1, g1, g2, g3, g4, g5⟩
 ·simp only [Sem.run_bind, g1, Result.andThen_ok, Sem.run_pure, Z1uq];refine hn F μ s.H w s.dfs _ _ _ (Stp.refl hr) he.dfs (Zuw (Z3d rfl)) (h0 fun c hc => ?_);rw [<- k4] at hc;obtain ⟨x, hx, rfl⟩ := List.mem_map.1 hc;exact (hcont _).1 (all_seen es seen.toArray g0 x hx)
 ·simp only [Sem.run_bind, g5, Result.andThen_ok, Sem.run_pure, Z1uq];obtain ⟨hmem, hns⟩ := mem_left hel;obtain ⟨i, hi⟩ := List.mem_iff_getElem?.1 hmem;rw [Array.getElem?_toList] at hi;have hci : bs[i]? = some e.born := by rw [<- k4]; simp [hi]
  have hlt : i < ents.length := by rw [<- k3]; exact (Array.getElem?_eq_some_iff.1 hi).1
  obtain ⟨y1, y2, y3⟩ := k7 i e _ hi (List.getElem?_eq_getElem hlt);obtain ⟨q1, q2⟩ := Zbc hr (y := .mi k clock (seen ++ [e.born]) clock) (o := .mapIter (some bm) clock (seen.toArray.push e.born) clock) hoj hμj i4
   (w' := { w1 with heap := w1.heap.setIfInBounds b (.mapIter (some bm) clock (seen.toArray.push e.born) clock) }) (by simp only [g1]) g2 g3 g4 (fun hb => ⟨b, bm, _, hμj, i2, by rw [hb]; simp, i4⟩)
  have hst : Stp F μ s.H w F μ (s.H.set j (.ob (.mi k clock (seen ++ [e.born]) clock))) { w1 with heap := w1.heap.setIfInBounds b (.mapIter (some bm) clock (seen.toArray.push e.born) clock) } :=
   ⟨q2, q1, by simp, fun _ _ => rfl, fun i hi => ⟨Z48 (y := .mk) hoj (by intro e; cases e) _ hi, fun _ e => e⟩⟩
  refine hn F μ _ _ s.dfs _ _ _ hst (hst.adr hr he.dfs) (Zuy (Z3d rfl) ?_ (.cl _ _ y3)) (h1 i e.born _ hci (List.getElem?_eq_getElem hlt) (fun hc => by rw [(hcont _).2 hc] at hns; cases hns) y2);rw [y1]; exact Zh4 kn _ y2
theorem Zpy {o : Oper} {K : D -> List Blk -> List AD -> Prop} {X : D -> List Blk -> Prop} {x : Operand} {j k kn clock i c : Nat} {ents : List (List Int × D)} {bs seen : List Nat} {e : List Int × D} (ho : o.op = .entry x) (hx : evo s.env x = some (.b j 0))
  (hj : Z1m s.H j = some (.ob (.mi k clock (seen ++ [c]) clock))) (hk : Z1m s.H k = some (.ob (.mpx kn ents bs clock))) (hc : bs[i]? = some c) (hent : ents[i]? = some e)
  (h : K (.tup [Zfm kn e.1, e.2]) s.H s.dfs) : OpA P r o s K X := by
 refine ⟨fun F μ a w hr he next Q hn _ => ?_⟩;obtain ⟨b, mb, hav, hμj⟩ := Zoh he hx;have hoj := Z42 hj;have hok := Z42 hk;obtain ⟨b', bm, m', i1, i2, i3, i4⟩ := hr.obj _ _ hoj (by rw [hμj]; simp);rw [hμj] at i1; cases i1;obtain ⟨bm', es, k1, k2, k3, k4, k5, k6, k7, k8⟩ := hr.obj _ _ hok (by rw [i2]; simp);rw [i2] at k1; cases k1;have hlt : i < es.size := by rw [k3]; exact (List.getElem?_eq_some_iff.1 hent).1
 have hei : es[i]? = some es[i] := Array.getElem?_eq_getElem hlt;have hborn : es[i].born = c := by rw [<- k4] at hc; simpa [hei] using hc
 obtain ⟨y1, y2, y3⟩ := k7 i _ _ hei hent;have hnd : (es.toList.map (·.born)).Nodup := by rw [k4]; exact k6
 have hf : es.find? (·.born == c) = some es[i] := by rw [<- Array.find?_toList, <- hborn]; exact find_born _ es.toList hnd (by simp)
 refine ⟨Z1ve (fun c => by rw [ho]; simp) (by rw [ho]; rfl), ?_⟩;rw [Oper.semAt_eq r a.eval o (fun c e => by rw [ho] at e; cases e)];have hrun : (Instr.entry (.pointer (some ⟨b, 0, none⟩))).run P w = .ok (.tuple #[es[i].key, es[i].val]) w := by
  have hback : (seen ++ [c]).toArray.back? = some c := by simp
  simp only [Instr.entry, getObj, Sem.run_bind, Sem.run, i3, k2, Result.andThen, hback, bne_self_eq_false, Bool.false_eq_true, if_false, hf];rfl
 have hex : (execOp a.eval o).run P w = .ok (.value (.tuple #[es[i].key, es[i].val])) w := by
  unfold execOp;rw [ho];simp only [hav, Sem.run_bind, hrun, Result.andThen_ok, Sem.run_pure]
 rw [hex, Z1uq];refine hn F μ s.H w s.dfs _ _ _ (Stp.refl hr) he.dfs (Zux ?_ (.cl _ _ y3)) h;rw [y1]; exact Zh4 kn _ y2
theorem Zms {K : St -> Prop} {k kn clock : Nat} {ents : List (List Int × D)} {bs : List Nat} (hk : Z1m s.H k = some (.ob (.mpx kn ents bs clock))) (hh : GS m K { s with H := s.H.set k (.ob (.mp kn ents)) }) : GS m K s :=
 Z4i (s' := { s with H := s.H.set k (.ob (.mp kn ents)) }) (fun F μ a w h => by
  have hob := Z42 hk
  by_cases hn : μ k = none
  ·
   refine ⟨F, μ, ?_⟩
   have hkl := Z2p hob
   have hset : ∀ j, (s.H.set k (Blk.ob (.mp kn ents)))[j]? = if j = k then some (Blk.ob (.mp kn ents)) else s.H[j]? := fun j => by
    have := Z2m (H := s.H) (Blk.ob (.mp kn ents)) (Nat.le_of_lt hkl) j
    rwa [Z4l, if_pos hkl] at this
   have := Z5e (μ' := μ) (w' := w) (H' := s.H.set k (.ob (.mp kn ents))) (fun j => j = k) h.hr (by simp) (fun j hj => by rw [hset, if_neg hj]) (fun j _ => rfl) (fun j b _ => Iff.rfl) (fun _ _ _ h => h) (Nat.le_refl _) rfl rfl rfl
    (fun b' hb' hn => rfl) (fun k' b' hk' _ hf => .inl ⟨k, rfl, Z2j hob, by subst hk'; exact hf⟩) (fun k1 k2 b h1 h2 _ _ _ _ => h1.trans h2.symm)
    (fun k' hk' hle' => by subst hk'; simp at hle'; omega) (fun _ k' sz1 es1 hk' hb1 hne => by subst hk'; exact absurd hn hne) (fun k' z hk' hb1 b => by subst hk'; rw [Z1s (by rw [hset, if_pos rfl])] at hb1; cases hb1)
    (fun _ k' z hk' hz hnv => by
     subst hk'
     rw [Z19 (by rw [hset, if_pos rfl])] at hz; cases hz
     exact absurd hn hnv) (fun k' hk' he => by subst hk'; exact h.hr.non _ hn) (fun k' z hk' hz => by
     subst hk'; rw [hset, if_pos rfl] at hz; cases hz; exact fun _ _ e => by cases e)
   exact ⟨this.2.1, .ob (fun i hi => Z48 (y := .mk) hob (by intro e; cases e) _ hi), ⟨this.1, ⟨h.er.env, h.er.nt, h.er.dfs.mono (fun _ _ _ e => e) (fun _ _ e => e) (fun j hj => ⟨Z48 (y := .mk) hob (by intro e; cases e) _ hj, fun _ e => e⟩)⟩, by simpa using h.len⟩⟩
  ·obtain ⟨b, es, k1, k2, k3, k4, k5, k6, k7, k8⟩ := h.hr.obj _ _ hob hn
   have hlt : ∀ (i : Nat) (e : MapEntry), es[i]? = some e -> bs[i]? = some e.born := fun i e he => by rw [<- k4]; simp [he]
   obtain ⟨q1, q2⟩ := Zbc h.hr (y := .mp kn ents) (o := .map es clock) hob k1 k8 (w' := w) (Zkh k2) rfl rfl rfl (fun hb => ⟨b, es, clock, k1, hb, k3, fun i e he => k5 _ (List.mem_of_getElem? (hlt i e he)), fun i j e e' he he' hbb => by
    have h1 := hlt i e he
    have h2 := hlt j e' he'
    rw [<- hbb] at h2
    obtain ⟨hi, g1⟩ := List.getElem?_eq_some_iff.1 h1
    obtain ⟨hj, g2⟩ := List.getElem?_eq_some_iff.1 h2
    exact (List.getElem_inj k6).1 (g1.trans g2.symm), k7, k8⟩)
   exact ⟨F, μ, q2, .ob (fun i hi => Z48 (y := .mk) hob (by intro e; cases e) _ hi), ⟨q1, ⟨h.er.env, h.er.nt, h.er.dfs.mono (fun _ _ _ e => e) (fun _ _ e => e) (fun j hj => ⟨Z48 (y := .mk) hob (by intro e; cases e) _ hj, fun _ e => e⟩)⟩, by simpa using h.len⟩⟩) hh
theorem Z2g {S : Stop} (hS : S = Zo P r m) {i : Nat} {l : List Nat} {o : Oper} (hoi : ops[i]? = some o) (hd : Z36 s.nt o.dst = true) (hg : o.guard = none)
  (h : OpA P r o s (fun d H' ds => OpsA P r m ops Q l (s.step o.dst d H' ds)) (fun d H' => ∀ e, (∀ t d, Z1c e t = some d -> Z1c s.env t = some d) -> Q (.pan d) { s with env := e, H := H' })) : S.ops ops Q (i :: l) s := by
 subst hS;refine Z3k hoi hd ?_;simp only [Zh, hg];exact h
end
end Go.Abs

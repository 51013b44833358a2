/- Part TyAH of the proofs about the benches of the accordion maker: see the last text of the claim for what is proved. -/
import Derived.Test.YthljpccegkmdnaaGreatDoorTyAG
set_option linter.unusedVariables false
set_option linter.unusedSimpArgs false
set_option linter.unnecessarySimpa false
set_option linter.constructorNameAsVariable false

namespace Go.Abs
open Go
section
variable {P : Program} {T : TT} {F : Fz} {μ : Mu} {w : World}
theorem Zbg {H : List Blk} (hr : HR F μ H w) {x : Blk} (hbf : BFr x) {sz : Nat} {es : List D} (hes : x.es = some (sz, es)) {c : Array Value} (hc : Z1l F μ sz es c)
  (hsz : es.length * sz <= c.size) (t : TypeId) : Left2 F μ H w (Z4v μ H.length (some (w.heap.size, c.size))) (H ++ [x]) (w.alloc (.cells c t)) := by
 obtain ⟨h1, h2, h3⟩ := Zji hr (hr.dom _ (Nat.le_refl _)) (Nat.le_refl _) hbf hes hc hsz t;rw [Z6y] at h1 h2;exact ⟨h1, h2, h3, by simp, fun j hj => by rw [Z2k _ (by omega)], .app _ _ _ _ _⟩
theorem Z2f (μ : Mu) (k : Nat) (p : Option (Nat × Nat)) : Z4v μ k p k = some p := Z6h μ k p
theorem Zgr {d : D} {v : Value} (hv : VR F μ d v) (hb : Z7e d = true) {t : TypeId} : Made P F μ w (.box d) (fun k => .b k 0) ((Instr.box t v).run P w) := by
 obtain ⟨h1, h2⟩ := Zgp hv hb;refine ⟨(fun _ _ e => by cases e), _, _, v.cells, t, .pointer (some ⟨w.heap.size, 0, none⟩), rfl, ?_, h1, by simp [h2], fun k μ' h => .b k 0 _ _ h⟩;simp [Instr.box, newVar, newRow, newObj, Sem.run]
theorem Zjy (hT : TOK P T) {t : TypeId} {e : TE} (he : Z1d T t = some e) (hb : Z7e e.zero = true) : Made P F μ w (.box e.zero) (fun k => .b k 0) ((Instr.alloc t true (.tuple #[])).run P w) := by
 obtain ⟨i, z, h1, h2, h3, h4, h5, h6, h7⟩ := Zc7 hT he;have hz : VR F μ e.zero z := by rw [h5]; exact .cl _ _ (CR.ofV z)
 have g1 := Zgr (P := P) (w := w) hz hb (t := t);have hzr : (zeroValue t).run P w = .ok z w := by simp [zeroValue, typeInfo, h1, h2]
 simp only [Instr.box] at g1;simp only [Instr.alloc, Sem.run_bind, hzr, Result.andThen_ok];simpa using g1
theorem Zmc (hT : TOK P T) {s : St} {a : Act} (h : ER F μ s a) {t : TypeId} {n : Nat} {parts : Array (Nat × Operand)} {K : Blk -> (Nat -> D) -> Prop}
  (hk : Zpd T t n (parts.toList.map fun (i, x) => (i, evo s.env x)) K) :
  ∃ x mk, Made P F μ w x mk ((Instr.buildSlice t n (parts.map fun (i, x) => (i, a.eval x))).run P w) /\ K x mk := by
 unfold Zpd at hk
 split at hk
 ·rename_i e he
  split at hk
  ·rename_i el hel
   split at hk
   ·rename_i e2 he2
    split at hk
    ·rename_i es sz hes hble hsz
     obtain ⟨i, z, h1, h2, h3, h4, h5, h6, h7⟩ := Zc7 hT he2;have hle := Nat.le_of_ble_eq_true hble
     let c0 : Array Value := (Array.range (n * e2.size)).map (z.cells[· % z.cells.size]!)
     obtain ⟨vs', g1, g2, g3, g4, g5⟩ := Zc6 h parts.toList 0 es c0 hes (by simp [c0]) (Nat.zero_le _);simp only [Nat.zero_add] at g3 g5;obtain ⟨x, hbf, hxe, hk⟩ : ∃ x : Blk, BFr x /\ x.es = some (e2.size, es) /\ K x (fun k => .o k e2.size n) := by
      split at hk
      ·rename_i hfr
       exact ⟨_, (fun _ _ e => by cases e; exact ⟨Z30.1 hfr⟩), rfl, hk⟩
      ·exact ⟨_, (fun _ _ e => by cases e), rfl, hk⟩
     refine ⟨_, _, ⟨hbf, e2.size, es, vs', el, .slice (some ⟨w.heap.size, 0, none⟩) n n, hxe, ?_, fun i e hi => g5 i e hi, by rw [g2, g3]; exact Nat.le_refl _, fun k μ' hk => .o k e2.size n _ _ n hk (Nat.le_refl _) (by rw [g2]; exact Nat.le_refl _)⟩, hk⟩;have hs := Z6i (w := w) hT he2;have hzr : (zeroValue el).run P w = .ok z w := by simp [zeroValue, typeInfo, h1, h2]
     unfold Instr.buildSlice;simp only [Sem.run_bind, run_underlying (Z61 hT he hel) w, Result.andThen_ok, hs];rw [if_neg (by omega)];have g1' : Instr.fill (fun i => some (i * e2.size, e2.size)) c0 (Array.map (fun x : Nat × Operand => (x.fst, a.eval x.snd)) parts).toList = some vs' := by
      rw [Array.toList_map]; exact g1
     split
     ·rename_i h0
      have e0 : Array.map (fun x => (#[] : Array Value)[x % (#[] : Array Value).size]!) (Array.range (n * e2.size)) = c0 := by
       apply Array.ext
       ·simp [c0]
       ·intro i hi; simp [h0] at hi
      simp only [Sem.run_bind, Sem.run_pure, Result.andThen_ok];rw [e0, g1'];simp [newRow, newObj, Sem.run]
     ·simp only [Sem.run_bind, hzr, Sem.run_pure, Result.andThen_ok];rw [show Array.map (fun x => z.cells[x % z.cells.size]!) (Array.range (n * e2.size)) = c0 from rfl, g1'];simp [newRow, newObj, Sem.run]
    ·exact hk.elim
   ·exact hk.elim
  ·exact hk.elim
 ·exact hk.elim
theorem Zif {s : St} {a : Act} (h : ER F μ s a) {x y : Operand} (hs : Zie x y = true) {k : IntKind} {n : Int} (hx : evo s.env x = some (.v (.int k n))) : ∃ k', a.eval x = .int k n /\ a.eval y = .int k' n := by
 have hv := (h.evo hx).v_inv;refine ⟨?_, ?_⟩
 ·cases y with
  | const v => cases v with | int k' m => exact k' | _ => exact k
  | _ => exact k
 ·refine ⟨hv, ?_⟩;unfold Zie at hs
  split at hs
  ·rename_i a1 b1
   obtain rfl := Nat.eq_of_beq_eq_true hs;exact hv
  ·rename_i k1 n1 k2 m1
   obtain rfl := of_decide_eq_true hs;simp only [Act.eval, Value.int.injEq] at hv;simp only [Act.eval];rw [hv.2]
  ·cases hs
theorem Zga {z : Array Value} {n j : Nat} (hz : 0 < z.size) (hj : j < n) : (madeCells z n)[j]? = z[j % z.size]? := by
 have hlt := Nat.mod_lt j hz;have e1 : z[j % z.size]! = z[j % z.size] := getElem!_pos z (j % z.size) hlt;simp only [madeCells, Array.getElem?_map];rw [Array.getElem?_eq_getElem (show j < (Array.range n).size by simpa using hj), Array.getElem?_eq_getElem hlt];simp [e1]
theorem Znu (z : Value) : frD (ofV z) = true := Zwc (F := Fz.nil) (CR.ofV z)
theorem Zmd (hT : TOK P T) {s : St} {a : Act} (h : ER F μ s a) {t : TypeId} {n c : Operand} {K : Blk -> (Nat -> D) -> Prop} (hk : Zpe ar T t (Zie n c) (evo s.env n) K) :
  ∃ x mk, Made P F μ w x mk ((Instr.makeSlice t (a.eval n) (a.eval c)).run P w) /\ K x mk := by
 unfold Zpe at hk
 split at hk
 ·rename_i e k m he hsame hn
  split at hk
  ·rename_i el hel
   split at hk
   ·rename_i e2 he2
    obtain ⟨h0, ⟨hroom, hroom2⟩, hk⟩ := hk;have h0 : 0 <= m := h0;have hroom : m.toNat * e2.bytes <= 140737488355328 := hroom;have hroom2 : m.toNat <= 4611686018427387904 := hroom2
    split at hk
    ·rename_i xs hxs
     obtain ⟨i, z, h1, h2, h3, h4, h5, h6, h7⟩ := Zc7 hT he2;obtain ⟨k', e1, e3⟩ := Zif h hsame hn;have hz : VR F μ e2.zero z := by rw [h5]; exact .cl _ _ (CR.ofV z)
     have hbox : Z7e e2.zero = true := by cases hq : e2.zero <;> rw [hq] at hxs <;> simp [Z35] at hxs <;> rfl
     have hrun := run_make (P := P) w t el i z (Z61 hT he hel) h1 h2 k k' m m h0 (Int.le_refl _) (by
      rw [<- h4]
      have : ((e2.bytes * m.toNat : Nat) : Int) <= 281474976710656 := by rw [Nat.mul_comm]; omega
      rw [Int.natCast_mul, Int.toNat_of_nonneg h0] at this; exact this) (by omega)
     rw [<- h3] at hrun;have hcs : (madeCells z.cells (m.toNat * e2.size)).size = m.toNat * e2.size := by simp [madeCells]
     have hcell : Z1l F μ e2.size (List.replicate m.toNat e2.zero) (madeCells z.cells (m.toNat * e2.size)) := Zpf hz hbox (by rw [h6, h3]) (fun j hj => by
      rw [Zga (by rw [h6, <- h3]; exact Nat.pos_of_ne_zero (fun e => by rw [e] at hj; omega)) hj, h6, <- h3])
     refine ⟨_, _, ⟨(fun _ _ e => by cases e; exact .rep (by rw [h5]; exact Znu z)), e2.size, List.replicate m.toNat e2.zero, _, el, .slice (some ⟨w.heap.size, 0, none⟩) m.toNat m.toNat, rfl, ?_, hcell, by rw [hcs]; simp, fun kk μ' hkk => .o kk e2.size m.toNat _ _ m.toNat hkk (Nat.le_refl _) (by rw [hcs]; exact Nat.le_refl _)⟩, hk⟩;rw [e1, e3]; exact hrun
    ·exact hk.elim
   ·exact hk.elim
  ·exact hk.elim
 ·exact hk.elim
theorem Zf2 (hT : TOK P T) {s : St} {a : Act} (h : ER F μ s a) {o : Oper} {K : Blk -> (Nat -> D) -> Prop} (hk : Z5g ar T s K o.op) :
  (∀ c, o.op ≠ .defer c) /\ ∃ x mk y, Made P F μ w x mk (y.run P w) /\ execOp a.eval o = (do pure (.value (<- y))) /\ K x mk := by
 obtain ⟨dst, op, type, pos, after, guard⟩ := o;simp only at hk ⊢
 cases op <;> try exact hk.elim
 case alloc t =>
  refine ⟨fun c e => (by cases e), ?_⟩;simp only [Z5g] at hk
  split at hk
  ·rename_i e he
   split at hk
   ·rename_i hb; exact ⟨_, _, _, Zjy hT he hb, rfl, hk⟩
   ·exact hk.elim
  ·exact hk.elim
 case box t x =>
  refine ⟨fun c e => (by cases e), ?_⟩;simp only [Z5g] at hk
  split at hk
  ·rename_i d hd
   split at hk
   ·rename_i hb; exact ⟨_, _, _, Zgr (h.evo hd) hb, rfl, hk⟩
   ·exact hk.elim
  ·exact hk.elim
 case buildSlice t n parts =>
  refine ⟨fun c e => (by cases e), ?_⟩;obtain ⟨x, mk, h1, h2⟩ := Zmc hT h hk;exact ⟨x, mk, _, h1, rfl, h2⟩
 case makeSlice t n c =>
  refine ⟨fun c e => (by cases e), ?_⟩;obtain ⟨x, mk, h1, h2⟩ := Zmd hT h hk;exact ⟨x, mk, _, h1, rfl, h2⟩
end
end Go.Abs

namespace Go.Abs
open Go
section
variable {P : Program} {T : TT} {F : Fz} {μ : Mu} {w : World}
theorem Zf3 {b : Nat} {c c' : Array Value} {ty : TypeId} (hw : w.heap[b]? = some (.cells c ty (0, 0))) : (w.setRow b c').heap = w.heap.setIfInBounds b (.cells c' ty (0, 0)) := by
 apply Array.ext_getElem?
 intro j;simp only [World.setRow, Array.getElem?_modify, Array.getElem?_setIfInBounds];have hlt := (Array.getElem?_eq_some_iff.1 hw).1
 by_cases hj : b = j
 ·subst hj;have hget : w.heap[b] = .cells c ty (0, 0) := (Array.getElem?_eq_some_iff.1 hw).2;simp [hlt, hget]
 ·simp [hj]
theorem Zd3 (t ty e ety : TypeId) (i : TypeInfo) (ht : P.underlying t = some (.slice e)) (hi : P.info? e = some i)
  (g sLen sCap : Nat) (cur : Array Value) (hg : w.heap[g]? = some (.cells cur ety (0, 0)))
  (a : Addr) (m c : Nat) (news : List Value) (hl : news.length = m * i.size) (hnews : ∀ j u, news[j]? = some u -> w.cell? (a.add j) = some u) (h1 : ∀ u ∈ news, u.oneCell' = true)
  (hroom : sLen + m <= sCap) (hfit : sLen * i.size + news.length <= cur.size) :
  (Builtin.append_ #[t, t] ty #[.slice (some ⟨g, 0, none⟩) sLen sCap, .slice (some a) m c]).run P w =
   .ok (.slice (some ⟨g, 0, none⟩) (sLen + m) sCap) (w.setRow g (cur.toList.take (sLen * i.size) ++ news ++ cur.toList.drop (sLen * i.size + news.length)).toArray) := by
 have hf := run_firstCells_some (P := P) w i.size m a m c news hl hnews;have hst := run_storeCells_at P g (sLen * i.size) ety news 0 cur w hg (by simpa using hfit) h1;simp only [Nat.add_zero] at hst;simp [Builtin.append_, run_underlying ht, sizeOf, typeInfo, hi, Builtin.lenOf, hroom, hf, Addr.add_lit, hst]
theorem Z67 (t ty e : TypeId) (i : TypeInfo) (ht : P.underlying t = some (.slice e)) (hi : P.info? e = some i) (sLen sCap : Nat) (base x : Option Addr) (c : Nat) (h : sLen <= sCap) :
  (Builtin.append_ #[t, t] ty #[.slice base sLen sCap, .slice x 0 c]).run P w = .ok (.slice base sLen sCap) w := by
 have hf : (Builtin.firstCells i.size 0 (.slice x 0 c)).run P w = .ok #[] w := by
  cases x with
  | none => exact run_firstCells_none w _ _ _ _
  | some a => exact run_firstCells_some w i.size 0 a 0 c [] (by simp) (fun j v hj => by simp at hj)
 cases base <;> simp [Builtin.append_, run_underlying ht, sizeOf, typeInfo, hi, Builtin.lenOf, h, hf, storeCells]
theorem Zb6 (w : World) (t ty e : TypeId) (i : TypeInfo) (z : Value) (ht : P.underlying t = some (.slice e)) (hi : P.info? e = some i) (hz : i.zero = some z) (ad : Option Addr)
  (a : Addr) (n c : Nat) (news : List Value) (hl : news.length = n * i.size) (hnews : ∀ j v, news[j]? = some v -> w.cell? (a.add j) = some v)
  (h0 : 0 < n) (h63 : (n : Int) <= 9223372036854775807) (h48 : n * i.bytes <= 281474976710656) :
  (Builtin.append_ #[t, t] ty #[.slice ad 0 0, .slice (some a) n c]).run P w =
   .ok (.slice (some ⟨w.heap.size, 0, none⟩) n (grownCap w n 0 e)) (w.drew.alloc (.cells (news.toArray ++ Builtin.zeroCells z.cells (grownCap w n 0 e - n)) e)) := by
 cases ad with
 | none => exact run_append_nil w t ty e i z ht hi hz a n c news hl hnews h0 h63 h48
 | some b =>
  have := run_append_grow (P := P) w t ty e i z ht hi hz b 0 0 [] (by simp) (fun j v hj => by simp at hj) a n c news hl hnews (by omega) (by simpa using h63) (by
   have : Builtin.nextslicecap (0 + n) 0 = n := by unfold Builtin.nextslicecap; rw [if_pos (by omega)]; omega
   rw [this]; exact h48)
  rw [this]; simp
theorem Left2.of_drew {μ' : Mu} {H H' : List Blk} {w' : World} (h : Left2 F μ H w.drew μ' H' w') : Left2 F μ H w μ' H' w' :=
 ⟨h.hr, ⟨h.post.mono, h.post.back, h.post.size, h.post.tape, h.post.os, h.post.output, h.post.keep⟩, h.mono, h.len, h.same, h.mks⟩
theorem Zuc (hT : TOK P T) {H : List Blk} (hr : HR F μ H w) {t ty : TypeId} {k sz n el : Nat} {es : List D} {e e2 : TE} {v1 : Value} (hv1 : VR F μ (.o k (sz + 1) n) v1) (he : Z1d T t = some e) (hel : e.el = some (none, el))
  (he2 : Z1d T el = some e2) (hsz : sz + 1 = e2.size) (hkb : Z1m H k = some (.els (sz + 1) es)) (hn : n = es.length) {ys : List D} {m c : Nat} {x : Option Addr} (hys : ys.length = m) (hfy : FrL ys)
  (hroom : (n + m) * e2.bytes <= 140737488355328) (hroom2 : n + m <= 4611686018427387904)
  (hsrc : 0 < m -> ∃ a, x = some a /\ ∃ news : List Value, news.length = m * (sz + 1) /\ (∀ j u, news[j]? = some u -> w.cell? (a.add j) = some u) /\ (∀ u ∈ news, u.oneCell' = true) /\ Z1l F μ (sz + 1) ys news.toArray) :
  ∃ w' μ' v', (Builtin.append_ #[t, t] ty #[v1, .slice x m c]).run P w = .ok v' w' /\ VR F μ' (.o H.length (sz + 1) (n + m)) v' /\ Left2 F μ H w μ' (H.set k .dead ++ [.els (sz + 1) (es ++ ys)]) w' := by
 obtain ⟨i, z, h1, h2, h3, h4, h5, h6, h7⟩ := Zc7 hT he2;have hsl := Z61 hT he hel;have hblk := Z5f hkb;have hkl := Z7k hblk;have hisz : i.size = sz + 1 := by rw [<- h3, <- hsz]
 have hlen : (es ++ ys).length = n + m := by rw [List.length_append, hys, hn]
 have hfe : FrL es := hr.fr k _ (by rw [<- Z1u]; exact hkb) _ _ rfl;have hbf : BFr (.els (sz + 1) (es ++ ys)) := fun _ _ e => by cases e; exact hfe.app hfy
 have grow : ∀ (cells : Array Value), Z1l F μ (sz + 1) (es ++ ys) cells -> (es ++ ys).length * (sz + 1) <= cells.size -> 
   Left2 F μ H w (Z4v μ H.length (some (w.heap.size, cells.size))) (H.set k .dead ++ [.els (sz + 1) (es ++ ys)]) (w.drew.alloc (.cells cells el)) := fun cells hc hl => by
  obtain ⟨q1, q2⟩ := Zns hr hkl;have r2 : Post F μ H w F μ (H.set k .dead) w.drew := q2.congr rfl rfl rfl rfl;have := Zbg (q1.congr (w' := w.drew) rfl) (x := .els (sz + 1) (es ++ ys)) hbf rfl hc hl el;rw [List.length_set] at this;exact ⟨this.hr, r2.trans this.post, this.mono, by have := this.len; simpa using this, fun j hj => this.same j (by simpa using hj), .set_app _ _ _ _ hblk⟩
 have ren : ∀ (H1 : List Blk) (W : World) (es1 : List D), HR F μ H1 W -> Post F μ H w F μ H1 W -> H1.length = H.length -> (∀ y : Blk, H1.set k y = H.set k y) -> Z17 H1 k = some (sz + 1, es1) -> es1 = es ++ ys -> ∀ p, μ k = some p ->
   Left2 F μ H w (Z4v μ H.length p) (H.set k .dead ++ [.els (sz + 1) (es ++ ys)]) W := fun H1 W es1 g1 g2 g3 g4 g5 g6 p hp => by
  have := Zpc g1 (x := .els (sz + 1) (es ++ ys)) (y := .dead) hbf (fun _ _ e => by cases e) g5 hp (by rw [g6]; rfl) rfl (g1.dom _ (Nat.le_refl _)) (Nat.le_refl _);have e0 : H1.length = (H.set k .dead).length := by simp [g3]
  rw [g4, e0, Z6y, List.length_set] at this;exact ⟨this.1, g2.trans this.2.1, this.2.2, by simp, fun j hj => by rw [Z2k _ (by omega)], .set_app _ _ _ _ hblk⟩
 rcases Nat.eq_zero_or_pos m with hm | hm
 ·
  obtain rfl : ys = [] := by cases ys with
   | nil => rfl
   | cons => simp at hys; omega
  subst hm;have same := ren H w es hr (Post.refl _ _ _ _) rfl (fun _ => rfl) hblk (by simp)
  cases hv1 with
  | cl _ _ hc => cases hc
  | o _ _ _ b M cap hμ hc hM =>
   exact ⟨w, _, _, Z67 (P := P) t ty el i hsl h1 n cap _ x c hc, .o H.length (sz + 1) n b M cap (Z2f μ _ _) hc hM, same _ hμ⟩
  | oNil _ _ ad hμ =>
   exact ⟨w, _, _, Z67 (P := P) t ty el i hsl h1 0 0 _ x c (Nat.le_refl _), .oNil H.length (sz + 1) ad (Z2f μ _ _), same _ hμ⟩
 ·obtain ⟨a, rfl, news, g1, g2, g3, g4⟩ := hsrc hm;have hsz0 : 0 < sz + 1 := Nat.succ_pos _
  cases hv1 with
  | cl _ _ hc => cases hc
  | o _ _ _ b M cap hμ hc hM =>
   rcases hr.row k _ _ hblk (by rw [hμ]; simp) with ⟨e1, -⟩ | ⟨b', m', cur, ety, e1, hw, hcs, hle, hcr⟩
   ·rw [hμ] at e1; cases e1
   ·rw [hμ] at e1; cases e1
    by_cases hfit : n + m <= cap
    ·
     have hfit2 : (n + m) * (sz + 1) <= cap * (sz + 1) := Nat.mul_le_mul_right _ hfit;have hfit3 : n * (sz + 1) + m * (sz + 1) <= cur.size := by rw [<- Nat.add_mul]; omega
     have hrun := Zd3 (P := P) t ty el ety i hsl h1 b n cap cur hw a m c news (by rw [hisz]; exact g1) g2 g3 hfit (by rw [hisz, g1]; exact hfit3);rw [hisz] at hrun
     let cells : Array Value := (cur.toList.take (n * (sz + 1)) ++ news ++ cur.toList.drop (n * (sz + 1) + news.length)).toArray
     have hcells : Z1l F μ (sz + 1) (es ++ ys) cells := by
      refine Z8g (c := cur) (news := news.toArray) hcr g4 (by simp [g1, hys]) (fun j hj => ?_) (fun j hj => ?_)
      ·rw [<- hn] at hj;simp only [cells, List.getElem?_toArray];rw [List.append_assoc, List.getElem?_append_left (by simp; omega), List.getElem?_take, if_pos hj]; simp
      ·rw [<- hn];simp only [cells, List.getElem?_toArray];simp only [List.size_toArray] at hj;rw [List.append_assoc, List.getElem?_append_right (by simp; omega), List.getElem?_append_left (by simp; omega)]
       congr 1; simp; omega
     obtain ⟨q1, q2⟩ := Zqx hr hblk hμ hw (Zf3 (c' := cells) hw) rfl rfl rfl (by simp only [cells, List.size_toArray, List.length_append, List.length_take, List.length_drop, Array.length_toList]; omega) (x := .els (sz + 1) (es ++ ys)) hbf rfl
      (by rw [hlen]; omega) hcells
     refine ⟨_, _, _, hrun, .o H.length (sz + 1) (n + m) b _ cap (Z2f μ _ _) hfit hM, ?_⟩;exact ren _ _ _ q1 q2 (by simp) (fun y => by simp) (by rw [Zu6 _ hkl, if_pos rfl]; rfl) rfl _ hμ
    ·
     have hg : cap < n + m := by omega
     have holds : ∃ olds : List Value, olds.length = n * i.size /\ (∀ j v, olds[j]? = some v -> w.cell? ((⟨b, 0, none⟩ : Addr).add j) = some v) /\ ∀ j, j < n * (sz + 1) -> olds.toArray[j]? = cur[j]? := by
      refine ⟨cur.toList.take (n * (sz + 1)), ?_, fun j v hj => ?_, fun j hj => ?_⟩
      ·rw [hisz]; simp; rw [hn]; omega
      ·rw [add_lit];rw [List.getElem?_take] at hj
       split at hj
       ·simp only [World.cell?, hw]; simpa using hj
       ·cases hj
      ·simp [List.getElem?_take, hj]
     obtain ⟨olds, o1, o2, o3⟩ := holds;have hrun := run_append_grow (P := P) w t ty el i z hsl h1 h2 ⟨b, 0, none⟩ n cap olds o1 o2 a m c news (by rw [hisz]; exact g1) g2 hg (by omega) (growslice_fits hg (by rw [<- h4]; exact hroom));have hcap : n + m <= grownCap w (n + m) cap el := grownCap_ge w _ _ _;have hcells : Z1l F μ (sz + 1) (es ++ ys) (olds.toArray ++ news.toArray ++ Builtin.zeroCells z.cells (grownCap w (n + m) cap el - (n + m))) := by
      refine Z8g (c := cur) (news := news.toArray) hcr g4 (by simp [g1, hys]) (fun j hj => ?_) (fun j hj => ?_)
      ·rw [<- hn] at hj;rw [Array.append_assoc, Array.getElem?_append_left (by simp [o1, hisz]; omega)];exact o3 j hj
      ·rw [<- hn];simp only [List.size_toArray] at hj;rw [Array.append_assoc, Array.getElem?_append_right (by simp [o1, hisz]), Array.getElem?_append_left (by simp [o1, hisz]; omega)]
       congr 1; simp [o1, hisz]
     have hsz2 : (olds.toArray ++ news.toArray ++ Builtin.zeroCells z.cells (grownCap w (n + m) cap el - (n + m))).size = grownCap w (n + m) cap el * (sz + 1) := by
      simp only [Array.size_append, List.size_toArray, o1, hisz, g1, size_zeroCells, h6];rw [<- Nat.add_mul, <- Nat.add_mul]; congr 1; omega
     refine ⟨_, _, _, hrun, .o H.length (sz + 1) (n + m) _ _ _ (Z2f μ _ _) hcap (by rw [hsz2]; exact Nat.le_refl _), grow _ hcells ?_⟩;rw [hlen, hsz2]; exact Nat.mul_le_mul_right _ hcap
  | oNil _ _ ad hμ =>
   rcases hr.row k _ _ hblk (by rw [hμ]; simp) with ⟨-, e2⟩ | ⟨b', m', cur, ety, e1, hw, hcs, hle, hcr⟩
   ·subst e2;have hrun := Zb6 (P := P) w t ty el i z hsl h1 h2 ad a m c news (by rw [hisz]; exact g1) g2 hm (by omega) (by rw [<- h4, Nat.zero_add] at *; omega);have hcap : m <= grownCap w m 0 el := grownCap_ge w _ _ _;have hsz2 : (news.toArray ++ Builtin.zeroCells z.cells (grownCap w m 0 el - m)).size = grownCap w m 0 el * (sz + 1) := by
     simp only [Array.size_append, List.size_toArray, hisz, g1, size_zeroCells, h6];rw [<- Nat.add_mul]; congr 1; omega
    have hcells : Z1l F μ (sz + 1) ([] ++ ys) (news.toArray ++ Builtin.zeroCells z.cells (grownCap w m 0 el - m)) := by
     refine Z8g (c := #[]) (news := news.toArray) (fun i e he => by simp at he) g4 (by simp [g1, hys]) (fun j hj => by simp at hj) (fun j hj => ?_);simp only [List.length_nil, Nat.zero_mul, Nat.zero_add];rw [Array.getElem?_append_left hj]
    rw [Nat.zero_add] at hlen ⊢;refine ⟨_, _, _, hrun, .o H.length (sz + 1) m _ _ _ (Z2f μ _ _) hcap (by rw [hsz2]; exact Nat.le_refl _), grow _ hcells ?_⟩;rw [hlen, hsz2]; exact Nat.mul_le_mul_right _ hcap
   ·rw [hμ] at e1; cases e1
theorem Zud (ad : Option Addr) (hT : TOK P T) {H : List Blk} (hr : HR F μ H w) {t ty : TypeId} {sz el : Nat} {e e2 : TE} (he : Z1d T t = some e) (hel : e.el = some (none, el))
  (he2 : Z1d T el = some e2) (hsz : sz + 1 = e2.size) {ys : List D} {m c : Nat} {x : Option Addr} (hys : ys.length = m) (hfy : FrL ys)
  (hroom : m * e2.bytes <= 140737488355328) (hroom2 : m <= 4611686018427387904)
  (hsrc : 0 < m -> ∃ a, x = some a /\ ∃ news : List Value, news.length = m * (sz + 1) /\ (∀ j u, news[j]? = some u -> w.cell? (a.add j) = some u) /\ (∀ u ∈ news, u.oneCell' = true) /\ Z1l F μ (sz + 1) ys news.toArray) :
  ∃ w' μ' v', (Builtin.append_ #[t, t] ty #[.slice ad 0 0, .slice x m c]).run P w = .ok v' w' /\ VR F μ' (.o H.length (sz + 1) m) v' /\ Left2 F μ H w μ' (H ++ [.els (sz + 1) ys]) w' := by
 obtain ⟨i, z, h1, h2, h3, h4, h5, h6, h7⟩ := Zc7 hT he2;have hsl := Z61 hT he hel;have hisz : i.size = sz + 1 := by rw [<- h3, <- hsz]
 rcases Nat.eq_zero_or_pos m with hm | hm
 ·obtain rfl : ys = [] := by cases ys with
   | nil => rfl
   | cons => simp at hys; omega
  subst hm;obtain ⟨q1, q2, q3⟩ := Zc5 hr (sz := sz + 1) (hr.dom _ (Nat.le_refl _)) (Nat.le_refl _);rw [Z6y] at q1 q2;exact ⟨w, _, _, Z67 (P := P) t ty el i hsl h1 0 0 _ x c (Nat.le_refl _), .oNil H.length (sz + 1) ad (Z2f μ _ _), q1, q2, q3, by simp, fun j hj => by rw [Z2k _ (by omega)], .app _ _ _ _ _⟩
 ·obtain ⟨a, rfl, news, g1, g2, g3, g4⟩ := hsrc hm;have hrun := Zb6 (P := P) w t ty el i z hsl h1 h2 ad a m c news (by rw [hisz]; exact g1) g2 hm (by omega) (by rw [<- h4]; omega);have hcap : m <= grownCap w m 0 el := grownCap_ge w _ _ _;have hsz2 : (news.toArray ++ Builtin.zeroCells z.cells (grownCap w m 0 el - m)).size = grownCap w m 0 el * (sz + 1) := by
   simp only [Array.size_append, List.size_toArray, hisz, g1, size_zeroCells, h6];rw [<- Nat.add_mul]; congr 1; omega
  have hcells : Z1l F μ (sz + 1) ys (news.toArray ++ Builtin.zeroCells z.cells (grownCap w m 0 el - m)) := by
   have := Z8g (c := #[]) (c' := news.toArray ++ Builtin.zeroCells z.cells (grownCap w m 0 el - m)) (news := news.toArray) (es := []) (fun i e he => by simp at he) g4 (by simp [g1, hys]) (fun j hj => by simp at hj) (fun j hj => by
    simp only [List.length_nil, Nat.zero_mul, Nat.zero_add]
    rw [Array.getElem?_append_left hj])
   simpa using this
  refine ⟨_, _, _, hrun, .o H.length (sz + 1) m _ _ _ (Z2f μ _ _) hcap (Nat.le_of_eq hsz2.symm), ?_⟩;have := Zbg (hr.congr (w' := w.drew) rfl) (x := .els (sz + 1) ys) (fun _ _ e => by cases e; exact hfy) (sz := sz + 1) (es := ys) rfl hcells (by rw [hys, hsz2]; exact Nat.mul_le_mul_right _ hcap) el;exact this.of_drew
theorem Zf4 (hT : TOK P T) {H : List Blk} (hr : HR F μ H w) {t t2 ty : TypeId} {d2 : D} {v2 : Value} (ad : Option Addr) (hv2 : VR F μ d2 v2) {K : Option D -> List Blk -> Prop}
  (h : Zub ar T H t t2 K d2) :
  ∃ w' μ' H' d' v', (Builtin.append_ #[t, t2] ty #[.slice ad 0 0, v2]).run P w = .ok v' w' /\ VR F μ' d' v' /\ Left2 F μ H w μ' H' w' /\ K (some d') H' := by
 unfold Zub at h
 split at h
 ·rename_i e he htt
  obtain rfl := Nat.eq_of_beq_eq_true htt
  split at h
  ·rename_i el hel
   split at h
   ·rename_i e2 he2
    split at h
    ·exact h.elim
    ·rename_i sz hsz
     obtain ⟨ys, m, x, c, rfl, hys, hfy, ⟨hroom, hk⟩, hsrc⟩ := Zf1 hr (Nat.succ_pos _) hv2 h;obtain ⟨w', μ', v', r1, r2, r3⟩ := Zud (P := P) ad hT hr (ty := ty) (c := c) he hel he2 hsz.symm hys hfy hroom.1 hroom.2 hsrc;exact ⟨w', μ', _, _, v', r1, r2, r3, hk⟩
   ·exact h.elim
  ·exact h.elim
 ·exact h.elim
theorem Zme (hT : TOK P T) {H : List Blk} (hr : HR F μ H w) {t t2 ty : TypeId} {d1 d2 : D} {v1 v2 : Value} (hv1 : VR F μ d1 v1) (hv2 : VR F μ d2 v2) {K : Option D -> List Blk -> Prop}
  (h : Zwh ar T H t t2 K d2 d1) :
  ∃ w' μ' H' d' v', (Builtin.append_ #[t, t2] ty #[v1, v2]).run P w = .ok v' w' /\ VR F μ' d' v' /\ Left2 F μ H w μ' H' w' /\ K (some d') H' := by
 unfold Zwh at h
 split at h
 ·split at h
  ·rename_i e he htt
   obtain rfl := Nat.eq_of_beq_eq_true htt
   split at h
   ·rename_i el hel
    split at h
    ·rename_i e2 sz' es he2 hkb
     split at h
     ·rename_i hb1 hb2
      obtain rfl := Nat.eq_of_beq_eq_true hb1;have hb2 := Nat.eq_of_beq_eq_true hb2;obtain ⟨hn, h⟩ := h;obtain ⟨ys, m, x, c, rfl, hys, hfy, ⟨hroom, hk⟩, hsrc⟩ := Zf1 hr (Nat.succ_pos _) hv2 h;obtain ⟨w', μ', v', r1, r2, r3⟩ := Zuc (P := P) hT hr (ty := ty) (c := c) hv1 he hel he2 hb2 hkb hn hys hfy hroom.1 hroom.2 hsrc;exact ⟨w', μ', _, _, v', r1, r2, r3, hk⟩
     ·exact h.elim
    ·exact h.elim
   ·exact h.elim
  ·exact h.elim
 ·obtain rfl := hv1.v_inv;exact Zf4 hT hr _ hv2 h
 ·cases hv1 with | cl _ _ hc => cases hc with | z0 a => exact Zf4 hT hr _ hv2 h
 ·exact h.elim
theorem Zf5 (hT : TOK P T) {H : List Blk} (hr : HR F μ H w) {t : TypeId} {dm dk dv : D} {vm vk vv : Value} (hm : VR F μ dm vm) (hk : VR F μ dk vk) (hv : VR F μ dv vv) {K : Option D -> List Blk -> Prop} (h : Znt ar T H t K dk dv dm) :
  ∃ w' H', (Instr.mapUpdate t vm vk vv).run P w = .ok () w' /\ Left2 F μ H w μ H' w' /\ K none H' := by
 unfold Znt at h
 split at h
 ·rename_i k
  obtain ⟨b, mm, rfl, hμ⟩ : ∃ b m, vm = .map (some b) /\ μ k = some (some (b, m)) := by cases hm with | cl _ _ hc => cases hc | mv _ b m hμ => exact ⟨b, m, rfl, hμ⟩
  split at h
  ·rename_i kn ee kn' ents hmt hb hfr
   split at h
   ·rename_i hkn
    obtain rfl := Nat.eq_of_beq_eq_true hkn;obtain ⟨l, hkd, hok⟩ := h.out;have hob := Z42 hb;obtain ⟨b', es, clock, o1, o2, o3, o4, o5, o6, o7⟩ := hr.obj _ _ hob (by rw [hμ]; simp);rw [hμ] at o1; cases o1;obtain ⟨kt, et, u1, u2, u3, u4⟩ := Z7d hT hmt;obtain ⟨rfl, hl⟩ := Zjw hkd hk;have her : EntsR F kn es ents := ⟨o3, o6⟩;have hfind := Zb5 (P := P) (w := w) (F := F) (T := T) (t := t) hT u2 u3 her hl;have hchk : (Instr.checkKey false 10000 kt (Z1k (kn != 0) l)).run P w = .ok () w := by
     have := Z5d (P := P) false 6 9994 kt _ u2 l w hl;rw [u3] at this; exact this
    have hcv := Zgo hv hfr;have fin : ∀ (es' : Array MapEntry) (c' : Nat), (Instr.mapUpdate t (.map (some b)) (Z1k (kn != 0) l) vv).run P w = .ok () { w with heap := w.heap.setIfInBounds b (.map es' c') } ->
      (∀ w', w'.heap[b]? = some (.map es' c') -> OBR F μ k w' (.mp kn (ar.mput ents l dv))) -> ∃ w' H', (Instr.mapUpdate t (.map (some b)) (Z1k (kn != 0) l) vv).run P w = .ok () w' /\ Left2 F μ H w μ H' w' /\ K none H' := fun es' c' hrun hobr => by
     obtain ⟨q1, q2⟩ := Zbc hr (y := .mp kn (ar.mput ents l dv)) (o := .map es' c') hob hμ o7 (w' := { w with heap := w.heap.setIfInBounds b (.map es' c') }) rfl rfl rfl rfl (hobr _);exact ⟨_, _, hrun, ⟨q1, q2, fun _ _ e => e, by simp, fun _ _ => rfl, fun i hi => ⟨Z48 (y := .mk) hob (by intro e; cases e) _ hi, fun _ e => e⟩⟩, hok⟩
    have hgo : (getObj b).run P w = .ok (.map es clock) w := by simp [getObj, Sem.run, o2]
    have hso : ∀ o, (setObj b o).run P w = .ok () { w with heap := w.heap.setIfInBounds b o } := fun o => by simp [setObj, Sem.run, o2]
    cases hf : ents.findIdx? (·.1 == l) with
    | none =>
     rw [hf, Option.bind_none] at hfind;have hput : ar.mput ents l dv = ents ++ [(l, dv)] := by show (match ents.findIdx? (·.1 == l) with | some i => _ | none => _) = _; rw [hf]
     refine fin (es.push { key := Z1k (kn != 0) l, val := vv, born := clock }) (clock + 1) ?_ fun w' hw' => ?_
     ·unfold Instr.mapUpdate;simp only [Sem.run_bind, run_underlying u1, Result.andThen_ok, hgo, hchk, hfind, hso]
     ·rw [hput];refine ⟨b, _, _, hμ, hw', by simp [o3], fun i e he => ?_, fun i j e e' he he' hbb => ?_, fun i e x he hx => ?_, o7⟩
      ·rw [Array.getElem?_push] at he
       split at he
       ·cases he; simp
       ·have := o4 i e he; omega
      ·rw [Array.getElem?_push] at he he'
       split at he <;> split at he'
       ·omega
       ·cases he; have := o4 j e' he'; simp at hbb; omega
       ·cases he'; have := o4 i e he; simp at hbb; omega
       ·exact o5 i j e e' he he' hbb
      ·rw [Array.getElem?_push] at he
       split at he
       ·rename_i e1; cases he
        rw [e1, o3] at hx; simp at hx; subst hx;exact ⟨rfl, hl, hcv⟩
       ·have hlt := (Array.getElem?_eq_some_iff.1 he).1;rw [List.getElem?_append_left (by omega)] at hx;exact o6 i e x he hx
    | some j =>
     obtain ⟨x0, g1, g2, g3⟩ := Z1n7 hf;have hj : j < es.size := by rw [o3]; exact (List.getElem?_eq_some_iff.1 g1).1
     have hej : es[j]? = some es[j] := Array.getElem?_eq_getElem hj;obtain ⟨e1, e2, -⟩ := o6 j _ _ hej g1;rw [hf, Option.bind_some, hej, Option.map_some] at hfind;have hkey : es[j].key = Z1k (kn != 0) l := by rw [e1, g3]
     have hput : ar.mput ents l dv = ents.set j (l, dv) := by show (match ents.findIdx? (·.1 == l) with | some i => _ | none => _) = _; rw [hf]
     refine fin (es.modify j fun e => { e with key := Z1k (kn != 0) l, val := vv }) clock ?_ fun w' hw' => ?_
     ·unfold Instr.mapUpdate;simp only [Sem.run_bind, run_underlying u1, Result.andThen_ok, hgo, hchk, hfind, hej, Option.map_some, Option.getD_some, hkey, Zeo, hso]
     ·have hmod : ∀ i e, (es.modify j fun e => { e with key := Z1k (kn != 0) l, val := vv })[i]? = some e -> ∃ e0, es[i]? = some e0 /\ e.born = e0.born /\ (i = j -> e.key = Z1k (kn != 0) l /\ e.val = vv) /\ (i ≠ j -> e = e0) := fun i e he => by
       rw [Array.getElem?_modify] at he
       split at he
       ·rename_i e3; subst e3
        obtain ⟨e0, h1, h2⟩ := Option.map_eq_some_iff.1 he;exact ⟨e0, h1, by rw [<- h2], fun _ => by rw [<- h2]; exact ⟨rfl, rfl⟩, fun h => absurd rfl h⟩
       ·rename_i e3
        exact ⟨e, he, rfl, fun h => absurd h.symm e3, fun _ => rfl⟩
      rw [hput];refine ⟨b, _, _, hμ, hw', by simp [o3], fun i e he => ?_, fun i j' e e' he he' hbb => ?_, fun i e x he hx => ?_, o7⟩
      ·obtain ⟨e0, h1, h2, -⟩ := hmod i e he;rw [h2]; exact o4 i e0 h1
      ·obtain ⟨e0, h1, h2, -⟩ := hmod i e he;obtain ⟨e0', h1', h2', -⟩ := hmod j' e' he';exact o5 i j' e0 e0' h1 h1' (by rw [<- h2, <- h2']; exact hbb)
      ·obtain ⟨e0, h1, h2, h3, h4⟩ := hmod i e he;rw [List.getElem?_set] at hx
       split at hx
       ·rename_i e5; subst e5
        split at hx
        ·cases hx
         exact ⟨(h3 rfl).1, hl, by rw [(h3 rfl).2]; exact hcv⟩
        ·cases hx
       ·rename_i e5
        rw [h4 (fun e => e5 e.symm)];exact o6 i e0 x h1 hx
   ·exact h.elim
  ·exact h.elim
 ·exact h.elim
end
end Go.Abs

namespace Go.Abs
open Go
structure Stp (F : Fz) (μ : Mu) (H : List Blk) (w : World) (F' : Fz) (μ' : Mu) (H' : List Blk) (w' : World) : Prop where
 post : Post F μ H w F' μ' H' w'
 hr : HR F' μ' H' w'
 len : H.length <= H'.length
 same : ∀ j, j < H.length -> μ' j = μ j
 mks : Mks μ H μ' H'
def setE : List (Nat × D) -> Nat -> D -> List (Nat × D)
 | [], t, d => [(t, d)]
 | (t', d') :: e, t, d => (match Nat.beq t' t with | true => (t', d) :: e | false => (t', d') :: setE e t d)
theorem Z5n : ∀ (e : List (Nat × D)) (t : Nat) (d : D) (n : Nat), Z1c (setE e t d) n = if t = n then some d else Z1c e n
 | [], t, d, n => rfl
 | (t', d') :: e, t, d, n => by
  simp only [setE]
  split
  ·rename_i h
   obtain rfl := Nat.eq_of_beq_eq_true h;simp only [Z1c]
   split <;> rfl
  ·rename_i h
   simp only [Z1c, Z5n e t d n];have hne : t' ≠ t := fun e => by subst e; rw [Nat.beq_refl] at h; cases h
   split
   ·rename_i h1; subst h1; rw [if_neg (fun e => hne e.symm)]
   ·rfl
def Z9c (e : List (Nat × D)) (dst : Option Nat) (d : D) : List (Nat × D) :=
 match dst with
 | some t => setE e t d
 | none => e
def Z36 (nt : Nat) (dst : Option Nat) : Bool :=
 match dst with
 | some t => Nat.blt t nt
 | none => true
section
variable {P : Program} {T : TT} {F F' : Fz} {μ μ' : Mu} {w w' : World} {H H' : List Blk}
theorem Stp.mono (h : Stp F μ H w F' μ' H' w') (h0 : HR F μ H w) : ∀ k x, μ k = some x -> μ' k = some x := fun k x hk => by
 rw [h.same k]; exact hk
 apply Nat.lt_of_not_le; intro hle
 rw [h0.dom k hle] at hk; cases hk
theorem Stp.keep {m : Nat} (h : Stp F μ H w F' μ' H' w') (hm : m <= H.length) : Kp m μ H μ' H' := ⟨fun i hi => h.same i (Nat.lt_of_lt_of_le hi hm), fun i _ hk => h.mks i hk⟩
theorem Stp.vr (h : Stp F μ H w F' μ' H' w') (h0 : HR F μ H w) {d : D} {v : Value} (hv : VR F μ d v) : VR F' μ' d v := hv.mono h.post.mono (h.mono h0)
theorem Stp.trans {F'' : Fz} {μ'' : Mu} {H'' : List Blk} {w'' : World} (h : Stp F μ H w F' μ' H' w') (h' : Stp F' μ' H' w' F'' μ'' H'' w'') : Stp F μ H w F'' μ'' H'' w'' :=
 ⟨h.post.trans h'.post, h'.hr, Nat.le_trans h.len h'.len, fun j hj => (h'.same j (Nat.lt_of_lt_of_le hj h.len)).trans (h.same j hj), h.mks.trans h'.mks⟩
theorem Stp.refl (h : HR F μ H w) : Stp F μ H w F μ H w := ⟨Post.refl _ _ _ _, h, Nat.le_refl _, fun _ _ => rfl, Mks.refl _ _⟩
theorem Left2.stp (h : Left2 F μ H w μ' H' w') : Stp F μ H w F μ' H' w' := ⟨h.post, h.hr, h.len, h.same, h.mks⟩
theorem Zmf {s : St} {a : Act} {dst : Option Nat} (h : ER F μ s a) (h0 : HR F μ s.H w) (hs : Stp F μ s.H w F' μ' H' w') {d : D} {v : Value} (hv : VR F' μ' d v) (hd : Z36 s.nt dst = true) {ds : List AD} {dv : List Deferred} (hds : ADR F' μ' H' ds dv) :
  ER F' μ' { env := Z9c s.env dst d, H := H', nt := s.nt, dfs := ds } ({ a with defers := dv }.put dst v) := by
 cases dst with
 | none => exact ⟨fun t x ht => let ⟨u, h1, h2⟩ := h.env t x ht; ⟨u, h1, hs.vr h0 h2⟩, h.nt, hds⟩
 | some t0 =>
  have hlt : t0 < a.tmps.size := by rw [h.nt]; exact Nat.le_of_ble_eq_true hd
  refine ⟨fun t x ht => ?_, by simp only [Act.put, Array.size_setIfInBounds]; exact h.nt, hds⟩;simp only [Z9c, Z5n] at ht;simp only [Act.put, Array.getElem?_setIfInBounds]
  split at ht
  ·rename_i e; subst e
   cases ht
   exact ⟨v, by rw [if_pos rfl, if_pos hlt], hv⟩
  ·rename_i e
   obtain ⟨u, h1, h2⟩ := h.env t x ht;exact ⟨u, by rw [if_neg e]; exact h1, hs.vr h0 h2⟩
structure OpA (P : Program) (r : Option Nat) (o : Oper) (s : St) (K : D -> List Blk -> List AD -> Prop) (X : D -> List Blk -> Prop) : Prop where
 out : ∀ F μ a w, HR F μ s.H w -> ER F μ s a -> ∀ (next : Act -> World -> Prop) (Q : Exit -> Act -> World -> Prop),
  (∀ F' μ' H' w' ds dv d v, Stp F μ s.H w F' μ' H' w' -> ADR F' μ' H' ds dv -> VR F' μ' d v -> K d H' ds -> next ({ a with defers := dv }.put o.dst v) w') ->
  (∀ F' μ' H' w' d v, Stp F μ s.H w F' μ' H' w' -> VR F' μ' d v -> X d H' -> Q (.panic [{ v := v, recovered := false }]) a w') ->
  o.uponIn (Fc r) 0 P a next Q ((o.semAt r a.eval).run P w)
variable {r : Option Nat} {o : Oper} {s : St} {K : D -> List Blk -> List AD -> Prop} {X : D -> List Blk -> Prop}
theorem Z5h : VR F μ (.tup []) undef := .cl _ _ (.tup [] #[] rfl (fun i c v h => by simp at h))
theorem Stp.adr (h : Stp F μ H w F' μ' H' w') (h0 : HR F μ H w) {l : List AD} {ds : List Deferred} (hd : ADR F μ H l ds) : ADR F' μ' H' l ds := hd.mono h.post.mono (h.mono h0) h.mks
theorem Zeg (hT : TOK P T) (h : Z1q ar T s (fun d => K d s.H s.dfs) o.op) : OpA P r o s K X := by
 refine ⟨fun F μ a w hr he next Q hn _ => ?_⟩;obtain ⟨h1, d, v, h2, h3, h4⟩ := Zez hT hr he h;rw [Oper.semAt_eq r a.eval o h1, h2, Oper.uponIn_value];exact hn F μ s.H w s.dfs _ d v (Stp.refl hr) he.dfs h3 h4
theorem Znv (hT : TOK P T) (h : Z5g ar T s (fun x mk => K (mk s.H.length) (s.H ++ [x]) s.dfs) o.op) : OpA P r o s K X := by
 refine ⟨fun F μ a w hr he next Q hn _ => ?_⟩;obtain ⟨h1, x, mk, y, ⟨hbf, sz, es, c, t, v, g1, g2, g3, g4, g5⟩, h3, h4⟩ := Zf2 (μ := μ) (w := w) hT he h;rw [Oper.semAt_eq r a.eval o h1, h3, Sem.run_bind, g2];simp only [Result.andThen_ok, Sem.run_pure, Oper.uponIn_value];have hl := Zbg hr hbf g1 g3 g4 t;exact hn F _ _ _ s.dfs _ _ v hl.stp (hl.stp.adr hr he.dfs) (g5 s.H.length _ (Z2f _ _ _)) h4
theorem Zgs (hT : TOK P T) (h : wA ar T s (fun d H' => K (d.getD (.tup [])) H' s.dfs) o.op) : OpA P r o s K X := by
 refine ⟨fun F μ a w hr he next Q hn _ => ?_⟩;obtain ⟨dst, op, type, pos, after, guard⟩ := o;simp only at h
 cases op <;> try exact h.elim
 case store t p x =>
  simp only [wA] at h
  split at h
  ·rename_i e dp dx h1 h2 h3
   obtain ⟨H', w', g1, g2, g3, g4, go, g5⟩ := Zpb (P := P) hT h1 hr (he.evo h2) (he.evo h3) h;rw [Oper.semAt_eq r a.eval _ (fun c e => by cases e)];simp only [execOp, Sem.run_bind, g1, Result.andThen_ok, Sem.run_pure, Oper.uponIn_skip];have hst : Stp F μ s.H w F μ H' w' := ⟨g3, g2, Nat.le_of_eq g4.symm, fun _ _ => rfl, fun k hk => ⟨go k _ hk, fun _ h => h⟩⟩;exact hn F μ H' w' s.dfs _ (.tup []) undef hst (hst.adr hr he.dfs) Z5h g5
  ·exact h.elim
 case makeMap t rsv =>
  cases rsv with
  | some x => exact h.elim
  | none =>
   simp only [wA] at h
   split at h
   ·rename_i kn ee hmt
    rw [Oper.semAt_eq r a.eval _ (fun c e => by cases e)];obtain ⟨q1, q2, q3⟩ := Zjj hr (x := .mp kn []) (o := .map #[] 0) (by intro e; cases e) (fun hb hm => ⟨w.heap.size, #[], 0, Z2f _ _ _, hb, rfl, fun i e he => by simp at he, fun i j e e' he => by simp at he, fun i e x he => by simp at he, fun c hc => hr.non _ (hr.dom _ (Nat.le_refl _)) c hc⟩);have hst : Stp F μ s.H w F (Z4v μ s.H.length (some (w.heap.size, 0))) (s.H ++ [.ob (.mp kn [])]) (w.alloc (.map #[] 0)) := ⟨q2, q1, by simp, fun j hj => by rw [Z2k _ (by omega)], .app _ _ _ _ _⟩;have hrun : (execOp a.eval { dst := dst, op := .makeMap t none, type := type, pos := pos, after := after, guard := guard }).run P w = .ok (.value (.map (some w.heap.size))) (w.alloc (.map #[] 0)) := by
     simp only [execOp, Instr.makeMap, Option.map_none, Sem.run_bind, Sem.run_pure, Result.andThen_ok];rfl
    rw [hrun, Oper.uponIn_value];exact hn F _ _ _ s.dfs _ (.mv s.H.length) _ hst (hst.adr hr he.dfs) (.mv _ _ _ (Z2f _ _ _)) h
   ·exact h.elim
 case insert t mm k x =>
  simp only [wA] at h
  split at h
  ·rename_i dm dk dv h1 h2 h3
   obtain ⟨w', H', g1, g2, g3⟩ := Zf5 (P := P) hT hr (he.evo h1) (he.evo h2) (he.evo h3) h;rw [Oper.semAt_eq r a.eval _ (fun c e => by cases e)];simp only [execOp, Sem.run_bind, g1, Result.andThen_ok, Sem.run_pure, Oper.uponIn_skip];exact hn F μ H' w' s.dfs _ (.tup []) undef g2.stp (g2.stp.adr hr he.dfs) Z5h g3
  ·exact h.elim
 case mapUpdate t mm k x =>
  simp only [wA] at h
  split at h
  ·rename_i dm dk dv h1 h2 h3
   obtain ⟨w', H', g1, g2, g3⟩ := Zf5 (P := P) hT hr (he.evo h1) (he.evo h2) (he.evo h3) h;rw [Oper.semAt_eq r a.eval _ (fun c e => by cases e)];simp only [execOp, Sem.run_bind, g1, Result.andThen_ok, Sem.run_pure, Oper.uponIn_skip];exact hn F μ H' w' s.dfs _ (.tup []) undef g2.stp (g2.stp.adr hr he.dfs) Z5h g3
  ·exact h.elim
 case call c =>
  obtain ⟨callee, args, argTypes⟩ := c
  cases callee with
  | value f => exact h.elim
  | invoke rr m => exact h.elim
  | builtin b =>
   cases b <;> try exact h.elim
   case append =>
    simp only [wA] at h;obtain ⟨args⟩ := args;obtain ⟨argTypes⟩ := argTypes;simp only at h
    split at h
    ·rename_i x y t t2
     split at h
     ·rename_i d1 d2 h1 h2
      obtain ⟨w', μ', H', d', v', g1, g2, g3, g4⟩ := Zme (P := P) hT hr (ty := type) (he.evo h1) (he.evo h2) h;rw [Oper.semAt_eq r a.eval _ (fun c e => by cases e)];simp only [execOp, resolve, Sem.run_bind, Sem.run_pure, Result.andThen_ok, invoke, builtin];rw [show (Array.map a.eval #[x, y]) = #[a.eval x, a.eval y] from by simp, g1];simp only [Result.andThen_ok, Sem.run_pure, Oper.uponIn_value];exact hn F μ' H' w' s.dfs _ d' v' g3.stp (g3.stp.adr hr he.dfs) g2 g4
     ·exact h.elim
    ·exact h.elim
end
end Go.Abs

/- Part TxAF of the proofs about the benches of the accordion maker: see the last text of the claim for what is proved. -/
import Derived.Test.YthljpccegkmdnaaGreatDoorTxAE
set_option linter.unusedVariables false
set_option linter.unusedSimpArgs false
set_option linter.unnecessarySimpa false
set_option linter.constructorNameAsVariable false

namespace Go.Abs
open Go
section
variable {P : Program} {T : TT} {F : Fz} {μ : Mu} {w : World}
theorem Zf3 {b : Nat} {c c' : Array Value} {ty : TypeId} (hw : w.heap[b]? = some (.cells c ty (0, 0))) : (w.setRow b c').heap = w.heap.setIfInBounds b (.cells c' ty (0, 0)) := by
 apply Array.ext_getElem?
 intro j;simp only [World.setRow, Array.getElem?_modify, Array.getElem?_setIfInBounds];have hlt := (Array.getElem?_eq_some_iff.1 hw).1
 by_cases hj : b = j
 ·subst hj;have hget : w.heap[b] = .cells c ty (0, 0) := (Array.getElem?_eq_some_iff.1 hw).2;simp [hlt, hget]
 ·simp [hj]
theorem Zd3 (t ty e ety : TypeId) (i : TypeInfo) (ht : P.underlying t = some (.slice e)) (hi : P.info? e = some i)
  (g sLen sCap : Nat) (cur : Array Value) (hg : w.heap[g]? = some (.cells cur ety (0, 0)))
  (a : Addr) (m c : Nat) (news : List Value) (hl : news.length = m * i.size) (hnews : ∀ j u, news[j]? = some u -> w.cell? (a.add j) = some u) (h1 : ∀ u ∈ news, u.oneCell' = true)
  (hroom : sLen + m <= sCap) (hfit : sLen * i.size + news.length <= cur.size) :
  (Builtin.append_ #[t, t] ty #[.slice (some ⟨g, 0, none⟩) sLen sCap, .slice (some a) m c]).run P w =
   .ok (.slice (some ⟨g, 0, none⟩) (sLen + m) sCap) (w.setRow g (cur.toList.take (sLen * i.size) ++ news ++ cur.toList.drop (sLen * i.size + news.length)).toArray) := by
 have hf := run_firstCells_some (P := P) w i.size m a m c news hl hnews;have hst := run_storeCells_at P g (sLen * i.size) ety news 0 cur w hg (by simpa using hfit) h1;simp only [Nat.add_zero] at hst;simp [Builtin.append_, run_underlying ht, sizeOf, typeInfo, hi, Builtin.lenOf, hroom, hf, Addr.add_lit, hst]
theorem Z67 (t ty e : TypeId) (i : TypeInfo) (ht : P.underlying t = some (.slice e)) (hi : P.info? e = some i) (sLen sCap : Nat) (base x : Option Addr) (c : Nat) (h : sLen <= sCap) :
  (Builtin.append_ #[t, t] ty #[.slice base sLen sCap, .slice x 0 c]).run P w = .ok (.slice base sLen sCap) w := by
 have hf : (Builtin.firstCells i.size 0 (.slice x 0 c)).run P w = .ok #[] w := by
  cases x with
  | none => exact run_firstCells_none w _ _ _ _
  | some a => exact run_firstCells_some w i.size 0 a 0 c [] (by simp) (fun j v hj => by simp at hj)
 cases base <;> simp [Builtin.append_, run_underlying ht, sizeOf, typeInfo, hi, Builtin.lenOf, h, hf, storeCells]
theorem Zb6 (w : World) (t ty e : TypeId) (i : TypeInfo) (z : Value) (ht : P.underlying t = some (.slice e)) (hi : P.info? e = some i) (hz : i.zero = some z) (ad : Option Addr)
  (a : Addr) (n c : Nat) (news : List Value) (hl : news.length = n * i.size) (hnews : ∀ j v, news[j]? = some v -> w.cell? (a.add j) = some v)
  (h0 : 0 < n) (h63 : (n : Int) <= 9223372036854775807) (h48 : n * i.bytes <= 281474976710656) :
  (Builtin.append_ #[t, t] ty #[.slice ad 0 0, .slice (some a) n c]).run P w =
   .ok (.slice (some ⟨w.heap.size, 0, none⟩) n (grownCap w n 0 e)) (w.drew.alloc (.cells (news.toArray ++ Builtin.zeroCells z.cells (grownCap w n 0 e - n)) e)) := by
 cases ad with
 | none => exact run_append_nil w t ty e i z ht hi hz a n c news hl hnews h0 h63 h48
 | some b =>
  have := run_append_grow (P := P) w t ty e i z ht hi hz b 0 0 [] (by simp) (fun j v hj => by simp at hj) a n c news hl hnews (by omega) (by simpa using h63) (by
   have : Builtin.nextslicecap (0 + n) 0 = n := by unfold Builtin.nextslicecap; rw [if_pos (by omega)]; omega
   rw [this]; exact h48)
  rw [this]; simp
theorem Left2.of_drew {μ' : Mu} {H H' : List Blk} {w' : World} (h : Left2 F μ H w.drew μ' H' w') : Left2 F μ H w μ' H' w' :=
 ⟨h.hr, ⟨h.post.mono, h.post.back, h.post.size, h.post.tape, h.post.os, h.post.output, h.post.keep⟩, h.mono, h.len, h.same, h.mks⟩
theorem Zuc (hT : TOK P T) {H : List Blk} (hr : HR F μ H w) {t ty : TypeId} {k sz n el : Nat} {es : List D} {e e2 : TE} {v1 : Value} (hv1 : VR F μ (.o k (sz + 1) n) v1) (he : Z1d T t = some e) (hel : e.el = some (none, el))
  (he2 : Z1d T el = some e2) (hsz : sz + 1 = e2.size) (hkb : Z1m H k = some (.els (sz + 1) es)) (hn : n = es.length) {ys : List D} {m c : Nat} {x : Option Addr} (hys : ys.length = m) (hfy : FrL ys)
  (hroom : (n + m) * e2.bytes <= 140737488355328) (hroom2 : n + m <= 4611686018427387904)
  (hsrc : 0 < m -> ∃ a, x = some a /\ ∃ news : List Value, news.length = m * (sz + 1) /\ (∀ j u, news[j]? = some u -> w.cell? (a.add j) = some u) /\ (∀ u ∈ news, u.oneCell' = true) /\ Z1l F μ (sz + 1) ys news.toArray) :
  ∃ w' μ' v', (Builtin.append_ #[t, t] ty #[v1, .slice x m c]).run P w = .ok v' w' /\ VR F μ' (.o H.length (sz + 1) (n + m)) v' /\ Left2 F μ H w μ' (H.set k .dead ++ [.els (sz + 1) (es ++ ys)]) w' := by
 obtain ⟨i, z, h1, h2, h3, h4, h5, h6, h7⟩ := Zc7 hT he2;have hsl := Z61 hT he hel;have hblk := Z5f hkb;have hkl := Z7k hblk;have hisz : i.size = sz + 1 := by rw [<- h3, <- hsz]
 have hlen : (es ++ ys).length = n + m := by rw [List.length_append, hys, hn]
 have hfe : FrL es := hr.fr k _ (by rw [<- Z1u]; exact hkb) _ _ rfl;have hbf : BFr (.els (sz + 1) (es ++ ys)) := fun _ _ e => by cases e; exact hfe.app hfy
 have grow : ∀ (cells : Array Value), Z1l F μ (sz + 1) (es ++ ys) cells -> (es ++ ys).length * (sz + 1) <= cells.size -> 
   Left2 F μ H w (Z4v μ H.length (some (w.heap.size, cells.size))) (H.set k .dead ++ [.els (sz + 1) (es ++ ys)]) (w.drew.alloc (.cells cells el)) := fun cells hc hl => by
  obtain ⟨q1, q2⟩ := Zns hr hkl;have r2 : Post F μ H w F μ (H.set k .dead) w.drew := q2.congr rfl rfl rfl rfl;have := Zbg (q1.congr (w' := w.drew) rfl) (x := .els (sz + 1) (es ++ ys)) hbf rfl hc hl el;rw [List.length_set] at this;exact ⟨this.hr, r2.trans this.post, this.mono, by have := this.len; simpa using this, fun j hj => this.same j (by simpa using hj), .set_app _ _ _ _ hblk⟩
 have ren : ∀ (H1 : List Blk) (W : World) (es1 : List D), HR F μ H1 W -> Post F μ H w F μ H1 W -> H1.length = H.length -> (∀ y : Blk, H1.set k y = H.set k y) -> Z17 H1 k = some (sz + 1, es1) -> es1 = es ++ ys -> ∀ p, μ k = some p ->
   Left2 F μ H w (Z4v μ H.length p) (H.set k .dead ++ [.els (sz + 1) (es ++ ys)]) W := fun H1 W es1 g1 g2 g3 g4 g5 g6 p hp => by
  have := Zpc g1 (x := .els (sz + 1) (es ++ ys)) (y := .dead) hbf (fun _ _ e => by cases e) g5 hp (by rw [g6]; rfl) rfl (g1.dom _ (Nat.le_refl _)) (Nat.le_refl _);have e0 : H1.length = (H.set k .dead).length := by simp [g3]
  rw [g4, e0, Z6y, List.length_set] at this;exact ⟨this.1, g2.trans this.2.1, this.2.2, by simp, fun j hj => by rw [Z2k _ (by omega)], .set_app _ _ _ _ hblk⟩
 rcases Nat.eq_zero_or_pos m with hm | hm
 ·
  obtain rfl : ys = [] := by cases ys with
   | nil => rfl
   | cons => simp at hys; omega
  subst hm;have same := ren H w es hr (Post.refl _ _ _ _) rfl (fun _ => rfl) hblk (by simp)
  cases hv1 with
  | cl _ _ hc => cases hc
  | o _ _ _ b M cap hμ hc hM =>
   exact ⟨w, _, _, Z67 (P := P) t ty el i hsl h1 n cap _ x c hc, .o H.length (sz + 1) n b M cap (Z2f μ _ _) hc hM, same _ hμ⟩
  | oNil _ _ ad hμ =>
   exact ⟨w, _, _, Z67 (P := P) t ty el i hsl h1 0 0 _ x c (Nat.le_refl _), .oNil H.length (sz + 1) ad (Z2f μ _ _), same _ hμ⟩
 ·obtain ⟨a, rfl, news, g1, g2, g3, g4⟩ := hsrc hm;have hsz0 : 0 < sz + 1 := Nat.succ_pos _
  cases hv1 with
  | cl _ _ hc => cases hc
  | o _ _ _ b M cap hμ hc hM =>
   rcases hr.row k _ _ hblk (by rw [hμ]; simp) with ⟨e1, -⟩ | ⟨b', m', cur, ety, e1, hw, hcs, hle, hcr⟩
   ·rw [hμ] at e1; cases e1
   ·rw [hμ] at e1; cases e1
    by_cases hfit : n + m <= cap
    ·
     have hfit2 : (n + m) * (sz + 1) <= cap * (sz + 1) := Nat.mul_le_mul_right _ hfit;have hfit3 : n * (sz + 1) + m * (sz + 1) <= cur.size := by rw [<- Nat.add_mul]; omega
     have hrun := Zd3 (P := P) t ty el ety i hsl h1 b n cap cur hw a m c news (by rw [hisz]; exact g1) g2 g3 hfit (by rw [hisz, g1]; exact hfit3);rw [hisz] at hrun
     let cells : Array Value := (cur.toList.take (n * (sz + 1)) ++ news ++ cur.toList.drop (n * (sz + 1) + news.length)).toArray
     have hcells : Z1l F μ (sz + 1) (es ++ ys) cells := by
      refine Z8g (c := cur) (news := news.toArray) hcr g4 (by simp [g1, hys]) (fun j hj => ?_) (fun j hj => ?_)
      ·rw [<- hn] at hj;simp only [cells, List.getElem?_toArray];rw [List.append_assoc, List.getElem?_append_left (by simp; omega), List.getElem?_take, if_pos hj]; simp
      ·rw [<- hn];simp only [cells, List.getElem?_toArray];simp only [List.size_toArray] at hj;rw [List.append_assoc, List.getElem?_append_right (by simp; omega), List.getElem?_append_left (by simp; omega)]
       congr 1; simp; omega
     obtain ⟨q1, q2⟩ := Zqx hr hblk hμ hw (Zf3 (c' := cells) hw) rfl rfl rfl (by simp only [cells, List.size_toArray, List.length_append, List.length_take, List.length_drop, Array.length_toList]; omega) (x := .els (sz + 1) (es ++ ys)) hbf rfl
      (by rw [hlen]; omega) hcells
     refine ⟨_, _, _, hrun, .o H.length (sz + 1) (n + m) b _ cap (Z2f μ _ _) hfit hM, ?_⟩;exact ren _ _ _ q1 q2 (by simp) (fun y => by simp) (by rw [Zu6 _ hkl, if_pos rfl]; rfl) rfl _ hμ
    ·
     have hg : cap < n + m := by omega
     have holds : ∃ olds : List Value, olds.length = n * i.size /\ (∀ j v, olds[j]? = some v -> w.cell? ((⟨b, 0, none⟩ : Addr).add j) = some v) /\ ∀ j, j < n * (sz + 1) -> olds.toArray[j]? = cur[j]? := by
      refine ⟨cur.toList.take (n * (sz + 1)), ?_, fun j v hj => ?_, fun j hj => ?_⟩
      ·rw [hisz]; simp; rw [hn]; omega
      ·rw [add_lit];rw [List.getElem?_take] at hj
       split at hj
       ·simp only [World.cell?, hw]; simpa using hj
       ·cases hj
      ·simp [List.getElem?_take, hj]
     obtain ⟨olds, o1, o2, o3⟩ := holds;have hrun := run_append_grow (P := P) w t ty el i z hsl h1 h2 ⟨b, 0, none⟩ n cap olds o1 o2 a m c news (by rw [hisz]; exact g1) g2 hg (by omega) (growslice_fits hg (by rw [<- h4]; exact hroom));have hcap : n + m <= grownCap w (n + m) cap el := grownCap_ge w _ _ _;have hcells : Z1l F μ (sz + 1) (es ++ ys) (olds.toArray ++ news.toArray ++ Builtin.zeroCells z.cells (grownCap w (n + m) cap el - (n + m))) := by
      refine Z8g (c := cur) (news := news.toArray) hcr g4 (by simp [g1, hys]) (fun j hj => ?_) (fun j hj => ?_)
      ·rw [<- hn] at hj;rw [Array.append_assoc, Array.getElem?_append_left (by simp [o1, hisz]; omega)];exact o3 j hj
      ·rw [<- hn];simp only [List.size_toArray] at hj;rw [Array.append_assoc, Array.getElem?_append_right (by simp [o1, hisz]), Array.getElem?_append_left (by simp [o1, hisz]; omega)]
       congr 1; simp [o1, hisz]
     have hsz2 : (olds.toArray ++ news.toArray ++ Builtin.zeroCells z.cells (grownCap w (n + m) cap el - (n + m))).size = grownCap w (n + m) cap el * (sz + 1) := by
      simp only [Array.size_append, List.size_toArray, o1, hisz, g1, size_zeroCells, h6];rw [<- Nat.add_mul, <- Nat.add_mul]; congr 1; omega
     refine ⟨_, _, _, hrun, .o H.length (sz + 1) (n + m) _ _ _ (Z2f μ _ _) hcap (by rw [hsz2]; exact Nat.le_refl _), grow _ hcells ?_⟩;rw [hlen, hsz2]; exact Nat.mul_le_mul_right _ hcap
  | oNil _ _ ad hμ =>
   rcases hr.row k _ _ hblk (by rw [hμ]; simp) with ⟨-, e2⟩ | ⟨b', m', cur, ety, e1, hw, hcs, hle, hcr⟩
   ·subst e2;have hrun := Zb6 (P := P) w t ty el i z hsl h1 h2 ad a m c news (by rw [hisz]; exact g1) g2 hm (by omega) (by rw [<- h4, Nat.zero_add] at *; omega);have hcap : m <= grownCap w m 0 el := grownCap_ge w _ _ _;have hsz2 : (news.toArray ++ Builtin.zeroCells z.cells (grownCap w m 0 el - m)).size = grownCap w m 0 el * (sz + 1) := by
     simp only [Array.size_append, List.size_toArray, hisz, g1, size_zeroCells, h6];rw [<- Nat.add_mul]; congr 1; omega
    have hcells : Z1l F μ (sz + 1) ([] ++ ys) (news.toArray ++ Builtin.zeroCells z.cells (grownCap w m 0 el - m)) := by
     refine Z8g (c := #[]) (news := news.toArray) (fun i e he => by simp at he) g4 (by simp [g1, hys]) (fun j hj => by simp at hj) (fun j hj => ?_);simp only [List.length_nil, Nat.zero_mul, Nat.zero_add];rw [Array.getElem?_append_left hj]
    rw [Nat.zero_add] at hlen ⊢;refine ⟨_, _, _, hrun, .o H.length (sz + 1) m _ _ _ (Z2f μ _ _) hcap (by rw [hsz2]; exact Nat.le_refl _), grow _ hcells ?_⟩;rw [hlen, hsz2]; exact Nat.mul_le_mul_right _ hcap
   ·rw [hμ] at e1; cases e1
theorem Zud (ad : Option Addr) (hT : TOK P T) {H : List Blk} (hr : HR F μ H w) {t ty : TypeId} {sz el : Nat} {e e2 : TE} (he : Z1d T t = some e) (hel : e.el = some (none, el))
  (he2 : Z1d T el = some e2) (hsz : sz + 1 = e2.size) {ys : List D} {m c : Nat} {x : Option Addr} (hys : ys.length = m) (hfy : FrL ys)
  (hroom : m * e2.bytes <= 140737488355328) (hroom2 : m <= 4611686018427387904)
  (hsrc : 0 < m -> ∃ a, x = some a /\ ∃ news : List Value, news.length = m * (sz + 1) /\ (∀ j u, news[j]? = some u -> w.cell? (a.add j) = some u) /\ (∀ u ∈ news, u.oneCell' = true) /\ Z1l F μ (sz + 1) ys news.toArray) :
  ∃ w' μ' v', (Builtin.append_ #[t, t] ty #[.slice ad 0 0, .slice x m c]).run P w = .ok v' w' /\ VR F μ' (.o H.length (sz + 1) m) v' /\ Left2 F μ H w μ' (H ++ [.els (sz + 1) ys]) w' := by
 obtain ⟨i, z, h1, h2, h3, h4, h5, h6, h7⟩ := Zc7 hT he2;have hsl := Z61 hT he hel;have hisz : i.size = sz + 1 := by rw [<- h3, <- hsz]
 rcases Nat.eq_zero_or_pos m with hm | hm
 ·obtain rfl : ys = [] := by cases ys with
   | nil => rfl
   | cons => simp at hys; omega
  subst hm;obtain ⟨q1, q2, q3⟩ := Zc5 hr (sz := sz + 1) (hr.dom _ (Nat.le_refl _)) (Nat.le_refl _);rw [Z6y] at q1 q2;exact ⟨w, _, _, Z67 (P := P) t ty el i hsl h1 0 0 _ x c (Nat.le_refl _), .oNil H.length (sz + 1) ad (Z2f μ _ _), q1, q2, q3, by simp, fun j hj => by rw [Z2k _ (by omega)], .app _ _ _ _ _⟩
 ·obtain ⟨a, rfl, news, g1, g2, g3, g4⟩ := hsrc hm;have hrun := Zb6 (P := P) w t ty el i z hsl h1 h2 ad a m c news (by rw [hisz]; exact g1) g2 hm (by omega) (by rw [<- h4]; omega);have hcap : m <= grownCap w m 0 el := grownCap_ge w _ _ _;have hsz2 : (news.toArray ++ Builtin.zeroCells z.cells (grownCap w m 0 el - m)).size = grownCap w m 0 el * (sz + 1) := by
   simp only [Array.size_append, List.size_toArray, hisz, g1, size_zeroCells, h6];rw [<- Nat.add_mul]; congr 1; omega
  have hcells : Z1l F μ (sz + 1) ys (news.toArray ++ Builtin.zeroCells z.cells (grownCap w m 0 el - m)) := by
   have := Z8g (c := #[]) (c' := news.toArray ++ Builtin.zeroCells z.cells (grownCap w m 0 el - m)) (news := news.toArray) (es := []) (fun i e he => by simp at he) g4 (by simp [g1, hys]) (fun j hj => by simp at hj) (fun j hj => by
    simp only [List.length_nil, Nat.zero_mul, Nat.zero_add]
    rw [Array.getElem?_append_left hj])
   simpa using this
  refine ⟨_, _, _, hrun, .o H.length (sz + 1) m _ _ _ (Z2f μ _ _) hcap (Nat.le_of_eq hsz2.symm), ?_⟩;have := Zbg (hr.congr (w' := w.drew) rfl) (x := .els (sz + 1) ys) (fun _ _ e => by cases e; exact hfy) (sz := sz + 1) (es := ys) rfl hcells (by rw [hys, hsz2]; exact Nat.mul_le_mul_right _ hcap) el;exact this.of_drew
theorem Zf4 (hT : TOK P T) {H : List Blk} (hr : HR F μ H w) {t t2 ty : TypeId} {d2 : D} {v2 : Value} (ad : Option Addr) (hv2 : VR F μ d2 v2) {K : Option D -> List Blk -> Prop}
  (h : Zub ar T H t t2 K d2) :
  ∃ w' μ' H' d' v', (Builtin.append_ #[t, t2] ty #[.slice ad 0 0, v2]).run P w = .ok v' w' /\ VR F μ' d' v' /\ Left2 F μ H w μ' H' w' /\ K (some d') H' := by
 unfold Zub at h
 split at h
 ·rename_i e he htt
  obtain rfl := Nat.eq_of_beq_eq_true htt
  split at h
  ·rename_i el hel
   split at h
   ·rename_i e2 he2
    split at h
    ·exact h.elim
    ·rename_i sz hsz
     obtain ⟨ys, m, x, c, rfl, hys, hfy, ⟨hroom, hk⟩, hsrc⟩ := Zf1 hr (Nat.succ_pos _) hv2 h;obtain ⟨w', μ', v', r1, r2, r3⟩ := Zud (P := P) ad hT hr (ty := ty) (c := c) he hel he2 hsz.symm hys hfy hroom.1 hroom.2 hsrc;exact ⟨w', μ', _, _, v', r1, r2, r3, hk⟩
   ·exact h.elim
  ·exact h.elim
 ·exact h.elim
theorem Zme (hT : TOK P T) {H : List Blk} (hr : HR F μ H w) {t t2 ty : TypeId} {d1 d2 : D} {v1 v2 : Value} (hv1 : VR F μ d1 v1) (hv2 : VR F μ d2 v2) {K : Option D -> List Blk -> Prop}
  (h : Zwh ar T H t t2 K d2 d1) :
  ∃ w' μ' H' d' v', (Builtin.append_ #[t, t2] ty #[v1, v2]).run P w = .ok v' w' /\ VR F μ' d' v' /\ Left2 F μ H w μ' H' w' /\ K (some d') H' := by
 unfold Zwh at h
 split at h
 ·split at h
  ·rename_i e he htt
   obtain rfl := Nat.eq_of_beq_eq_true htt
   split at h
   ·rename_i el hel
    split at h
    ·rename_i e2 sz' es he2 hkb
     split at h
     ·rename_i hb1 hb2
      obtain rfl := Nat.eq_of_beq_eq_true hb1;have hb2 := Nat.eq_of_beq_eq_true hb2;obtain ⟨hn, h⟩ := h;obtain ⟨ys, m, x, c, rfl, hys, hfy, ⟨hroom, hk⟩, hsrc⟩ := Zf1 hr (Nat.succ_pos _) hv2 h;obtain ⟨w', μ', v', r1, r2, r3⟩ := Zuc (P := P) hT hr (ty := ty) (c := c) hv1 he hel he2 hb2 hkb hn hys hfy hroom.1 hroom.2 hsrc;exact ⟨w', μ', _, _, v', r1, r2, r3, hk⟩
     ·exact h.elim
    ·exact h.elim
   ·exact h.elim
  ·exact h.elim
 ·obtain rfl := hv1.v_inv;exact Zf4 hT hr _ hv2 h
 ·cases hv1 with | cl _ _ hc => cases hc with | z0 a => exact Zf4 hT hr _ hv2 h
 ·exact h.elim
theorem Zf5 (hT : TOK P T) {H : List Blk} (hr : HR F μ H w) {t : TypeId} {dm dk dv : D} {vm vk vv : Value} (hm : VR F μ dm vm) (hk : VR F μ dk vk) (hv : VR F μ dv vv) {K : Option D -> List Blk -> Prop} (h : Znt ar T H t K dk dv dm) :
  ∃ w' H', (Instr.mapUpdate t vm vk vv).run P w = .ok () w' /\ Left2 F μ H w μ H' w' /\ K none H' := by
 unfold Znt at h
 split at h
 ·rename_i k
  obtain ⟨b, mm, rfl, hμ⟩ : ∃ b m, vm = .map (some b) /\ μ k = some (some (b, m)) := by cases hm with | cl _ _ hc => cases hc | mv _ b m hμ => exact ⟨b, m, rfl, hμ⟩
  split at h
  ·rename_i kn ee kn' ents hmt hb hfr
   split at h
   ·rename_i hkn
    obtain rfl := Nat.eq_of_beq_eq_true hkn;obtain ⟨l, hkd, hok⟩ := h.out;have hob := Z42 hb;obtain ⟨b', es, clock, o1, o2, o3, o4, o5, o6, o7⟩ := hr.obj _ _ hob (by rw [hμ]; simp);rw [hμ] at o1; cases o1;obtain ⟨kt, et, u1, u2, u3, u4⟩ := Z7d hT hmt;obtain ⟨rfl, hl⟩ := Zjw hkd hk;have her : EntsR F kn es ents := ⟨o3, o6⟩;have hfind := Zb5 (P := P) (w := w) (F := F) (T := T) (t := t) hT u2 u3 her hl;have hchk : (Instr.checkKey false 10000 kt (Z1k (kn != 0) l)).run P w = .ok () w := by
     have := Z5d (P := P) false 6 9994 kt _ u2 l w hl;rw [u3] at this; exact this
    have hcv := Zgo hv hfr;have fin : ∀ (es' : Array MapEntry) (c' : Nat), (Instr.mapUpdate t (.map (some b)) (Z1k (kn != 0) l) vv).run P w = .ok () { w with heap := w.heap.setIfInBounds b (.map es' c') } ->
      (∀ w', w'.heap[b]? = some (.map es' c') -> OBR F μ k w' (.mp kn (ar.mput ents l dv))) -> ∃ w' H', (Instr.mapUpdate t (.map (some b)) (Z1k (kn != 0) l) vv).run P w = .ok () w' /\ Left2 F μ H w μ H' w' /\ K none H' := fun es' c' hrun hobr => by
     obtain ⟨q1, q2⟩ := Zbc hr (y := .mp kn (ar.mput ents l dv)) (o := .map es' c') hob hμ o7 (w' := { w with heap := w.heap.setIfInBounds b (.map es' c') }) rfl rfl rfl rfl (hobr _);exact ⟨_, _, hrun, ⟨q1, q2, fun _ _ e => e, by simp, fun _ _ => rfl, fun i hi => ⟨Z48 (y := .mk) hob (by intro e; cases e) _ hi, fun _ e => e⟩⟩, hok⟩
    have hgo : (getObj b).run P w = .ok (.map es clock) w := by simp [getObj, Sem.run, o2]
    have hso : ∀ o, (setObj b o).run P w = .ok () { w with heap := w.heap.setIfInBounds b o } := fun o => by simp [setObj, Sem.run, o2]
    cases hf : ents.findIdx? (·.1 == l) with
    | none =>
     rw [hf, Option.bind_none] at hfind;have hput : ar.mput ents l dv = ents ++ [(l, dv)] := by show (match ents.findIdx? (·.1 == l) with | some i => _ | none => _) = _; rw [hf]
     refine fin (es.push { key := Z1k (kn != 0) l, val := vv, born := clock }) (clock + 1) ?_ fun w' hw' => ?_
     ·unfold Instr.mapUpdate;simp only [Sem.run_bind, run_underlying u1, Result.andThen_ok, hgo, hchk, hfind, hso]
     ·rw [hput];refine ⟨b, _, _, hμ, hw', by simp [o3], fun i e he => ?_, fun i j e e' he he' hbb => ?_, fun i e x he hx => ?_, o7⟩
      ·rw [Array.getElem?_push] at he
       split at he
       ·cases he; simp
       ·have := o4 i e he; omega
      ·rw [Array.getElem?_push] at he he'
       split at he <;> split at he'
       ·omega
       ·cases he; have := o4 j e' he'; simp at hbb; omega
       ·cases he'; have := o4 i e he; simp at hbb; omega
       ·exact o5 i j e e' he he' hbb
      ·rw [Array.getElem?_push] at he
       split at he
       ·rename_i e1; cases he
        rw [e1, o3] at hx; simp at hx; subst hx;exact ⟨rfl, hl, hcv⟩
       ·have hlt := (Array.getElem?_eq_some_iff.1 he).1;rw [List.getElem?_append_left (by omega)] at hx;exact o6 i e x he hx
    | some j =>
     obtain ⟨x0, g1, g2, g3⟩ := find_at hf;have hj : j < es.size := by rw [o3]; exact (List.getElem?_eq_some_iff.1 g1).1
     have hej : es[j]? = some es[j] := Array.getElem?_eq_getElem hj;obtain ⟨e1, e2, -⟩ := o6 j _ _ hej g1;rw [hf, Option.bind_some, hej, Option.map_some] at hfind;have hkey : es[j].key = Z1k (kn != 0) l := by rw [e1, g3]
     have hput : ar.mput ents l dv = ents.set j (l, dv) := by show (match ents.findIdx? (·.1 == l) with | some i => _ | none => _) = _; rw [hf]
     refine fin (es.modify j fun e => { e with key := Z1k (kn != 0) l, val := vv }) clock ?_ fun w' hw' => ?_
     ·unfold Instr.mapUpdate;simp only [Sem.run_bind, run_underlying u1, Result.andThen_ok, hgo, hchk, hfind, hej, Option.map_some, Option.getD_some, hkey, Zeo, hso]
     ·have hmod : ∀ i e, (es.modify j fun e => { e with key := Z1k (kn != 0) l, val := vv })[i]? = some e -> ∃ e0, es[i]? = some e0 /\ e.born = e0.born /\ (i = j -> e.key = Z1k (kn != 0) l /\ e.val = vv) /\ (i ≠ j -> e = e0) := fun i e he => by
       rw [Array.getElem?_modify] at he
       split at he
       ·rename_i e3; subst e3
        obtain ⟨e0, h1, h2⟩ := Option.map_eq_some_iff.1 he;exact ⟨e0, h1, by rw [<- h2], fun _ => by rw [<- h2]; exact ⟨rfl, rfl⟩, fun h => absurd rfl h⟩
       ·rename_i e3
        exact ⟨e, he, rfl, fun h => absurd h.symm e3, fun _ => rfl⟩
      rw [hput];refine ⟨b, _, _, hμ, hw', by simp [o3], fun i e he => ?_, fun i j' e e' he he' hbb => ?_, fun i e x he hx => ?_, o7⟩
      ·obtain ⟨e0, h1, h2, -⟩ := hmod i e he;rw [h2]; exact o4 i e0 h1
      ·obtain ⟨e0, h1, h2, -⟩ := hmod i e he;obtain ⟨e0', h1', h2', -⟩ := hmod j' e' he';exact o5 i j' e0 e0' h1 h1' (by rw [<- h2, <- h2']; exact hbb)
      ·obtain ⟨e0, h1, h2, h3, h4⟩ := hmod i e he;rw [List.getElem?_set] at hx
       split at hx
       ·rename_i e5; subst e5
        split at hx
        ·cases hx
         exact ⟨(h3 rfl).1, hl, by rw [(h3 rfl).2]; exact hcv⟩
        ·cases hx
       ·rename_i e5
        rw [h4 (fun e => e5 e.symm)];exact o6 i e0 x h1 hx
   ·exact h.elim
  ·exact h.elim
 ·exact h.elim
end
end Go.Abs

namespace Go.Abs
open Go
structure Stp (F : Fz) (μ : Mu) (H : List Blk) (w : World) (F' : Fz) (μ' : Mu) (H' : List Blk) (w' : World) : Prop where
 post : Post F μ H w F' μ' H' w'
 hr : HR F' μ' H' w'
 len : H.length <= H'.length
 same : ∀ j, j < H.length -> μ' j = μ j
 mks : Mks μ H μ' H'
def Z6j : List (Nat × D) -> Nat -> D -> List (Nat × D)
 | [], t, d => [(t, d)]
 | (t', d') :: e, t, d => (match Nat.beq t' t with | true => (t', d) :: e | false => (t', d') :: Z6j e t d)
theorem Z5n : ∀ (e : List (Nat × D)) (t : Nat) (d : D) (n : Nat), Z1c (Z6j e t d) n = if t = n then some d else Z1c e n
 | [], t, d, n => rfl
 | (t', d') :: e, t, d, n => by
  simp only [Z6j]
  split
  ·rename_i h
   obtain rfl := Nat.eq_of_beq_eq_true h;simp only [Z1c]
   split <;> rfl
  ·rename_i h
   simp only [Z1c, Z5n e t d n];have hne : t' ≠ t := fun e => by subst e; rw [Nat.beq_refl] at h; cases h
   split
   ·rename_i h1; subst h1; rw [if_neg (fun e => hne e.symm)]
   ·rfl
def Z9c (e : List (Nat × D)) (dst : Option Nat) (d : D) : List (Nat × D) :=
 match dst with
 | some t => Z6j e t d
 | none => e
def Z36 (nt : Nat) (dst : Option Nat) : Bool :=
 match dst with
 | some t => Nat.blt t nt
 | none => true
section
variable {P : Program} {T : TT} {F F' : Fz} {μ μ' : Mu} {w w' : World} {H H' : List Blk}
theorem Stp.mono (h : Stp F μ H w F' μ' H' w') (h0 : HR F μ H w) : ∀ k x, μ k = some x -> μ' k = some x := fun k x hk => by
 rw [h.same k]; exact hk
 apply Nat.lt_of_not_le; intro hle
 rw [h0.dom k hle] at hk; cases hk
theorem Stp.keep {m : Nat} (h : Stp F μ H w F' μ' H' w') (hm : m <= H.length) : Kp m μ H μ' H' := ⟨fun i hi => h.same i (Nat.lt_of_lt_of_le hi hm), fun i _ hk => h.mks i hk⟩
theorem Stp.vr (h : Stp F μ H w F' μ' H' w') (h0 : HR F μ H w) {d : D} {v : Value} (hv : VR F μ d v) : VR F' μ' d v := hv.mono h.post.mono (h.mono h0)
theorem Stp.trans {F'' : Fz} {μ'' : Mu} {H'' : List Blk} {w'' : World} (h : Stp F μ H w F' μ' H' w') (h' : Stp F' μ' H' w' F'' μ'' H'' w'') : Stp F μ H w F'' μ'' H'' w'' :=
 ⟨h.post.trans h'.post, h'.hr, Nat.le_trans h.len h'.len, fun j hj => (h'.same j (Nat.lt_of_lt_of_le hj h.len)).trans (h.same j hj), h.mks.trans h'.mks⟩
theorem Stp.refl (h : HR F μ H w) : Stp F μ H w F μ H w := ⟨Post.refl _ _ _ _, h, Nat.le_refl _, fun _ _ => rfl, Mks.refl _ _⟩
theorem Left2.stp (h : Left2 F μ H w μ' H' w') : Stp F μ H w F μ' H' w' := ⟨h.post, h.hr, h.len, h.same, h.mks⟩
theorem Zmf {s : St} {a : Act} {dst : Option Nat} (h : ER F μ s a) (h0 : HR F μ s.H w) (hs : Stp F μ s.H w F' μ' H' w') {d : D} {v : Value} (hv : VR F' μ' d v) (hd : Z36 s.nt dst = true) {ds : List AD} {dv : List Deferred} (hds : ADR F' μ' H' ds dv) :
  ER F' μ' { env := Z9c s.env dst d, H := H', nt := s.nt, dfs := ds } ({ a with defers := dv }.put dst v) := by
 cases dst with
 | none => exact ⟨fun t x ht => let ⟨u, h1, h2⟩ := h.env t x ht; ⟨u, h1, hs.vr h0 h2⟩, h.nt, hds⟩
 | some t0 =>
  have hlt : t0 < a.tmps.size := by rw [h.nt]; exact Nat.le_of_ble_eq_true hd
  refine ⟨fun t x ht => ?_, by simp only [Act.put, Array.size_setIfInBounds]; exact h.nt, hds⟩;simp only [Z9c, Z5n] at ht;simp only [Act.put, Array.getElem?_setIfInBounds]
  split at ht
  ·rename_i e; subst e
   cases ht
   exact ⟨v, by rw [if_pos rfl, if_pos hlt], hv⟩
  ·rename_i e
   obtain ⟨u, h1, h2⟩ := h.env t x ht;exact ⟨u, by rw [if_neg e]; exact h1, hs.vr h0 h2⟩
structure OpA (P : Program) (r : Option Nat) (o : Oper) (s : St) (K : D -> List Blk -> List AD -> Prop) (X : D -> List Blk -> Prop) : Prop where
 out : ∀ F μ a w, HR F μ s.H w -> ER F μ s a -> ∀ (next : Act -> World -> Prop) (Q : Exit -> Act -> World -> Prop),
  (∀ F' μ' H' w' ds dv d v, Stp F μ s.H w F' μ' H' w' -> ADR F' μ' H' ds dv -> VR F' μ' d v -> K d H' ds -> next ({ a with defers := dv }.put o.dst v) w') ->
  (∀ F' μ' H' w' d v, Stp F μ s.H w F' μ' H' w' -> VR F' μ' d v -> X d H' -> Q (.panic [{ v := v, recovered := false }]) a w') ->
  o.uponIn (Fc r) 0 P a next Q ((o.semAt r a.eval).run P w)
variable {r : Option Nat} {o : Oper} {s : St} {K : D -> List Blk -> List AD -> Prop} {X : D -> List Blk -> Prop}
theorem Z5h : VR F μ (.tup []) undef := .cl _ _ (.tup [] #[] rfl (fun i c v h => by simp at h))
theorem Stp.adr (h : Stp F μ H w F' μ' H' w') (h0 : HR F μ H w) {l : List AD} {ds : List Deferred} (hd : ADR F μ H l ds) : ADR F' μ' H' l ds := hd.mono h.post.mono (h.mono h0) h.mks
theorem Zeg (hT : TOK P T) (h : Z1q ar T s (fun d => K d s.H s.dfs) o.op) : OpA P r o s K X := by
 refine ⟨fun F μ a w hr he next Q hn _ => ?_⟩;obtain ⟨h1, d, v, h2, h3, h4⟩ := Zez hT hr he h;rw [Oper.semAt_eq r a.eval o h1, h2, Oper.uponIn_value];exact hn F μ s.H w s.dfs _ d v (Stp.refl hr) he.dfs h3 h4
theorem Znv (hT : TOK P T) (h : Z5g ar T s (fun x mk => K (mk s.H.length) (s.H ++ [x]) s.dfs) o.op) : OpA P r o s K X := by
 refine ⟨fun F μ a w hr he next Q hn _ => ?_⟩;obtain ⟨h1, x, mk, y, ⟨hbf, sz, es, c, t, v, g1, g2, g3, g4, g5⟩, h3, h4⟩ := Zf2 (μ := μ) (w := w) hT he h;rw [Oper.semAt_eq r a.eval o h1, h3, Sem.run_bind, g2];simp only [Result.andThen_ok, Sem.run_pure, Oper.uponIn_value];have hl := Zbg hr hbf g1 g3 g4 t;exact hn F _ _ _ s.dfs _ _ v hl.stp (hl.stp.adr hr he.dfs) (g5 s.H.length _ (Z2f _ _ _)) h4
theorem Zgs (hT : TOK P T) (h : wA ar T s (fun d H' => K (d.getD (.tup [])) H' s.dfs) o.op) : OpA P r o s K X := by
 refine ⟨fun F μ a w hr he next Q hn _ => ?_⟩;obtain ⟨dst, op, type, pos, after, guard⟩ := o;simp only at h
 cases op <;> try exact h.elim
 case store t p x =>
  simp only [wA] at h
  split at h
  ·rename_i e dp dx h1 h2 h3
   obtain ⟨H', w', g1, g2, g3, g4, go, g5⟩ := Zpb (P := P) hT h1 hr (he.evo h2) (he.evo h3) h;rw [Oper.semAt_eq r a.eval _ (fun c e => by cases e)];simp only [execOp, Sem.run_bind, g1, Result.andThen_ok, Sem.run_pure, Oper.uponIn_skip];have hst : Stp F μ s.H w F μ H' w' := ⟨g3, g2, Nat.le_of_eq g4.symm, fun _ _ => rfl, fun k hk => ⟨go k _ hk, fun _ h => h⟩⟩;exact hn F μ H' w' s.dfs _ (.tup []) undef hst (hst.adr hr he.dfs) Z5h g5
  ·exact h.elim
 case makeMap t rsv =>
  cases rsv with
  | some x => exact h.elim
  | none =>
   simp only [wA] at h
   split at h
   ·rename_i kn ee hmt
    rw [Oper.semAt_eq r a.eval _ (fun c e => by cases e)];obtain ⟨q1, q2, q3⟩ := Zjj hr (x := .mp kn []) (o := .map #[] 0) (by intro e; cases e) (fun hb hm => ⟨w.heap.size, #[], 0, Z2f _ _ _, hb, rfl, fun i e he => by simp at he, fun i j e e' he => by simp at he, fun i e x he => by simp at he, fun c hc => hr.non _ (hr.dom _ (Nat.le_refl _)) c hc⟩);have hst : Stp F μ s.H w F (Z4v μ s.H.length (some (w.heap.size, 0))) (s.H ++ [.ob (.mp kn [])]) (w.alloc (.map #[] 0)) := ⟨q2, q1, by simp, fun j hj => by rw [Z2k _ (by omega)], .app _ _ _ _ _⟩;have hrun : (execOp a.eval { dst := dst, op := .makeMap t none, type := type, pos := pos, after := after, guard := guard }).run P w = .ok (.value (.map (some w.heap.size))) (w.alloc (.map #[] 0)) := by
     simp only [execOp, Instr.makeMap, Option.map_none, Sem.run_bind, Sem.run_pure, Result.andThen_ok];rfl
    rw [hrun, Oper.uponIn_value];exact hn F _ _ _ s.dfs _ (.mv s.H.length) _ hst (hst.adr hr he.dfs) (.mv _ _ _ (Z2f _ _ _)) h
   ·exact h.elim
 case insert t mm k x =>
  simp only [wA] at h
  split at h
  ·rename_i dm dk dv h1 h2 h3
   obtain ⟨w', H', g1, g2, g3⟩ := Zf5 (P := P) hT hr (he.evo h1) (he.evo h2) (he.evo h3) h;rw [Oper.semAt_eq r a.eval _ (fun c e => by cases e)];simp only [execOp, Sem.run_bind, g1, Result.andThen_ok, Sem.run_pure, Oper.uponIn_skip];exact hn F μ H' w' s.dfs _ (.tup []) undef g2.stp (g2.stp.adr hr he.dfs) Z5h g3
  ·exact h.elim
 case mapUpdate t mm k x =>
  simp only [wA] at h
  split at h
  ·rename_i dm dk dv h1 h2 h3
   obtain ⟨w', H', g1, g2, g3⟩ := Zf5 (P := P) hT hr (he.evo h1) (he.evo h2) (he.evo h3) h;rw [Oper.semAt_eq r a.eval _ (fun c e => by cases e)];simp only [execOp, Sem.run_bind, g1, Result.andThen_ok, Sem.run_pure, Oper.uponIn_skip];exact hn F μ H' w' s.dfs _ (.tup []) undef g2.stp (g2.stp.adr hr he.dfs) Z5h g3
  ·exact h.elim
 case call c =>
  obtain ⟨callee, args, argTypes⟩ := c
  cases callee with
  | value f => exact h.elim
  | invoke rr m => exact h.elim
  | builtin b =>
   cases b <;> try exact h.elim
   case append =>
    simp only [wA] at h;obtain ⟨args⟩ := args;obtain ⟨argTypes⟩ := argTypes;simp only at h
    split at h
    ·rename_i x y t t2
     split at h
     ·rename_i d1 d2 h1 h2
      obtain ⟨w', μ', H', d', v', g1, g2, g3, g4⟩ := Zme (P := P) hT hr (ty := type) (he.evo h1) (he.evo h2) h;rw [Oper.semAt_eq r a.eval _ (fun c e => by cases e)];simp only [execOp, resolve, Sem.run_bind, Sem.run_pure, Result.andThen_ok, invoke, builtin];rw [show (Array.map a.eval #[x, y]) = #[a.eval x, a.eval y] from by simp, g1];simp only [Result.andThen_ok, Sem.run_pure, Oper.uponIn_value];exact hn F μ' H' w' s.dfs _ d' v' g3.stp (g3.stp.adr hr he.dfs) g2 g4
     ·exact h.elim
    ·exact h.elim
end
end Go.Abs

namespace Go.Abs
open Go
def St.step (s : St) (dst : Option Nat) (d : D) (H : List Blk) (ds : List AD) : St := { env := Z9c s.env dst d, H := H, nt := s.nt, dfs := ds }
structure OpsA (P : Program) (r : Option Nat) (m : Nat) (ops : Array Oper) (Q : AX -> St -> Prop) (l : List Nat) (s : St) : Prop where
 out : ∀ F μ a w, RL m F μ s a w -> wpOpsIn (Fc r) 0 P ops (Z4f F μ s.H w m Q) l a w
def Zh (ops : Array Oper) (s : St) (o : Oper) (Kt Kf : St -> Prop) : Prop :=
 match o.guard with
 | none => Kt s
 | some (j, want) =>
  match ops[j]? with
  | none => Kf s
  | some oj =>
   match oj.dst with
   | none => Kf s
   | some t =>
    match Z1c s.env t with
    | some (.v (.bool b)) =>
     match want with
     | true => (match b with | true => Kt { s with env := Z6j s.env t (.v (.bool true)) } | false => Kf { s with env := Z6j s.env t (.v (.bool false)) })
     | false => (match b with | true => Kf { s with env := Z6j s.env t (.v (.bool true)) } | false => Kt { s with env := Z6j s.env t (.v (.bool false)) })
    | some (.tup []) => Kf s
    | _ => False
section
variable {P : Program} {T : TT} {r : Option Nat} {m : Nat} {ops : Array Oper} {Q : AX -> St -> Prop} {s : St}
theorem RL.step {F F' : Fz} {μ μ' : Mu} {a : Act} {w w' : World} {H' : List Blk} {dst : Option Nat} {d : D} {v : Value} {ds : List AD} {dv : List Deferred} (h : RL m F μ s a w) (hs : Stp F μ s.H w F' μ' H' w') (hds : ADR F' μ' H' ds dv) (hv : VR F' μ' d v) (hd : Z36 s.nt dst = true) :
  RL m F' μ' (s.step dst d H' ds) ({ a with defers := dv }.put dst v) w' :=
 ⟨hs.hr, Zmf h.er h.hr hs hv hd hds, Nat.le_trans h.len hs.len⟩
theorem RL.env {F : Fz} {μ : Mu} {a : Act} {w : World} {e : List (Nat × D)} (h : RL m F μ s a w) (he : ∀ t d, Z1c e t = some d -> Z1c s.env t = some d) : RL m F μ { s with env := e } a w :=
 ⟨h.hr, ⟨fun t d ht => h.er.env t d (he t d ht), h.er.nt, h.er.dfs⟩, h.len⟩
theorem Zaa {e : List (Nat × D)} {t : Nat} {d : D} (h : Z1c e t = some d) (n : Nat) (x : D) (hx : Z1c (Z6j e t d) n = some x) : Z1c e n = some x := by
 rw [Z5n] at hx
 split at hx
 ·rename_i e1; subst e1; cases hx; exact h
 ·exact hx
theorem Z4m {o : Oper} {Kt Kf : St -> Prop} (h : Zh ops s o Kt Kf) {F : Fz} {μ : Mu} {a : Act} (he : ER F μ s a) :
  ∃ e, (∀ t d, Z1c e t = some d -> Z1c s.env t = some d) /\ ((Region.wanted o (yielded ops a.tmps) = true /\ Kt { s with env := e }) ∨ (Region.wanted o (yielded ops a.tmps) = false /\ Kf { s with env := e })) := by
 obtain ⟨dst, op, type, pos, after, guard⟩ := o
 cases guard with
 | none => exact ⟨s.env, fun _ _ h => h, .inl ⟨rfl, h⟩⟩
 | some g =>
  obtain ⟨j, want⟩ := g;simp only [Zh] at h;simp only [Region.wanted, yielded]
  cases ho : ops[j]? with
  | none =>
   simp only [ho] at h;exact ⟨s.env, fun _ _ h => h, .inr ⟨by simp, h⟩⟩
  | some oj =>
   simp only [ho] at h
   cases hd : oj.dst with
   | none =>
    simp only [hd] at h;exact ⟨s.env, fun _ _ h => h, .inr ⟨by simp [hd], h⟩⟩
   | some t =>
    simp only [hd] at h
    split at h
    ·rename_i b hb
     obtain ⟨v, h1, h2⟩ := he.env t _ hb;obtain rfl := h2.bool;have hy : ((some oj).bind (·.dst)).bind (a.tmps[·]?) = some (.bool b) := by simp [hd, h1]
     rw [hy]
     cases want <;> cases b <;> simp only at h <;>
      first
      | exact ⟨_, fun n x hx => Zaa hb n x hx, .inl ⟨rfl, h⟩⟩
      | exact ⟨_, fun n x hx => Zaa hb n x hx, .inr ⟨rfl, h⟩⟩
    ·rename_i hb
     obtain ⟨v, h1, h2⟩ := he.env t _ hb;have hv : v = .tuple #[] := by
      cases h2 with
      | cl _ _ hc => cases hc with | tup _ vs hl _ => rw [Array.eq_empty_of_size_eq_zero hl.symm]
      | tup _ vs hl _ => rw [Array.eq_empty_of_size_eq_zero hl.symm]
     subst hv;have hy : ((some oj).bind (·.dst)).bind (a.tmps[·]?) = some (.tuple #[]) := by simp [hd, h1]
     rw [hy];exact ⟨s.env, fun _ _ h => h, .inr ⟨rfl, h⟩⟩
    ·exact h.elim
theorem Zgt {Fe : Fence} {n : Nat} {o : Oper} {a : Act} {next next' : Act -> World -> Prop} {q q' : Exit -> Act -> World -> Prop} (hn : ∀ a w, next a w -> next' a w) (hq : ∀ e a w, q e a w -> q' e a w) {x : Result Next}
  (h : o.uponIn Fe n P a next q x) : o.uponIn Fe n P a next' q' x := by
 cases x with
 | ok x w =>
  cases x <;> simp only [Oper.uponIn] at h ⊢ <;>
   first
    | exact hn _ _ h
    | exact ⟨h.1, CallsIn.mono h.2 (fun e w'' he => by cases e <;> first | exact hn _ _ he | exact hq _ _ _ he | exact (let ⟨a, w, g⟩ := he; ⟨a, w, hq _ _ _ g⟩))⟩
    | exact ⟨h.1, RowsIn.mono h.2 (fun _ _ he => hn _ _ he)⟩
    | exact ⟨h.1, RoundIn.mono h.2 (fun e w'' he => by cases e <;> first | exact hn _ _ he | exact hq _ _ _ he | exact (let ⟨a, w, g⟩ := he; ⟨a, w, hq _ _ _ g⟩))⟩
 | halt x w => cases x <;> simp only [Oper.uponIn] at h ⊢ <;> exact hq _ _ _ h
theorem Z3u {Fe : Fence} {n : Nat} {q q' : Exit -> Act -> World -> Prop} (hq : ∀ e a w, q e a w -> q' e a w) : ∀ (l : List Nat) (a : Act) (w : World), wpOpsIn Fe n P ops q l a w -> wpOpsIn Fe n P ops q' l a w
 | [], a, w, h => hq _ _ _ h
 | i :: l, a, w, h => by
  simp only [wpOpsIn] at h ⊢
  split
  ·rename_i ho; rw [ho] at h; exact Z3u hq l _ _ h
  ·rename_i o ho
   rw [ho] at h;simp only at h
   split
   ·rename_i hw; rw [if_pos hw] at h; exact ⟨h.1, Zgt (Z3u hq l) hq h.2⟩
   ·rename_i hw; rw [if_neg hw] at h; exact ⟨h.1, Z3u hq l _ _ h.2⟩
theorem Zf6 (h : Q .normal s) : OpsA P r m ops Q [] s := ⟨fun _ _ _ _ h1 => .here h1 (x := .normal) trivial h⟩
theorem Z3k {i : Nat} {l : List Nat} {o : Oper} (ho : ops[i]? = some o) (hd : Z36 s.nt o.dst = true)
  (h : Zh ops s o (fun s => OpA P r o s (fun d H' ds => OpsA P r m ops Q l (s.step o.dst d H' ds)) (fun d H' => ∀ e, (∀ t d, Z1c e t = some d -> Z1c s.env t = some d) -> Q (.pan d) { s with env := e, H := H' }))
   (fun s => OpsA P r m ops Q l (s.step o.dst (.tup []) s.H s.dfs))) : OpsA P r m ops Q (i :: l) s := by
 refine ⟨fun F μ a w h1 => ?_⟩;simp only [wpOpsIn, ho];obtain ⟨e, he, hc⟩ := Z4m h h1.er;have h1' := h1.env he;rcases hc with ⟨hw, hk⟩ | ⟨hw, hk⟩
 ·rw [if_pos hw];refine ⟨fun _ _ => trivial, hk.out F μ a w h1'.hr h1'.er _ _ (fun F' μ' H' w' ds dv d v q1 qd q2 q3 => ?_) (fun F' μ' H' w' d v q1 q2 q3 => ?_)⟩
  ·have h2 := h1'.step (ds := ds) q1 qd q2 hd;refine Z3u ?_ _ _ _ (q3.out F' μ' _ w' h2);exact fun e a w hq => hq.trans q1.post (q1.keep h1.len)
  ·exact ⟨F', μ', { s with env := e, H := H' }, .pan d, q1.post, q1.keep h1.len, ⟨q1.hr, ⟨fun t x ht => let ⟨u, g1, g2⟩ := h1'.er.env t x ht; ⟨u, g1, q1.vr h1.hr g2⟩, h1.er.nt, q1.adr h1.hr h1.er.dfs⟩,
    Nat.le_trans h1.len q1.len⟩, ⟨v, rfl, q2⟩, q3 e (fun t d h => h)⟩
 ·rw [if_neg (by rw [hw]; simp)];refine ⟨fun _ _ => trivial, ?_⟩;exact hk.out F μ _ w (h1'.step (dst := o.dst) (d := .tup []) (v := undef) (ds := s.dfs) (Stp.refl h1.hr) h1.er.dfs Z5h hd)
end
end Go.Abs

namespace Go.Abs
open Go
def Zr4 : Op -> Nat
 | .alloc _ | .box _ _ | .buildSlice _ _ _ | .makeSlice _ _ _ => 2
 | .store _ _ _ => 3
 | .call { callee := .builtin .append, .. } => 3
 | .call { callee := .builtin .len, .. } => 1
 | .call { callee := .builtin .max, .. } => 1
 | .call { callee := .builtin .min, .. } => 1
 | .call _ => 0
 | .mapUpdate _ _ _ _ | .insert _ _ _ _ => 3
 | .makeMap _ r => (match r with | none => 3 | some _ => 0)
 | .defer _ | .go _ | .panic _ | .range _ _ | .next _ _ | .entry _ | .mapEntry _ _ _ | .entryStore _ _ _ _ => 0
 | .ready _ | .waits _ | .sliceToArrayPointer _ _ | .makeChan _ _ | .send _ _ | .recv _ _ _ | .select _ _ => 0
 | _ => 1
def Z4h (A : Ar) (T : TT) (ops : Array Oper) (K : List Nat -> St -> Prop) : List Nat -> St -> Prop
 | [], s => K [] s
 | i :: l, s =>
  match ops[i]? with
  | none => False
  | some o =>
   match Zr4 o.op, Z36 s.nt o.dst with
   | 1, true => Zh ops s o (fun s => Z1q A T s (fun d => Z4h A T ops K l (s.step o.dst d s.H s.dfs)) o.op) (fun s => Z4h A T ops K l (s.step o.dst (.tup []) s.H s.dfs))
   | 2, true => Zh ops s o (fun s => Z5g A T s (fun x mk => Z4h A T ops K l (s.step o.dst (mk s.H.length) (s.H ++ [x]) s.dfs)) o.op) (fun s => Z4h A T ops K l (s.step o.dst (.tup []) s.H s.dfs))
   | 3, true => Zh ops s o (fun s => wA A T s (fun d H' => Z4h A T ops K l (s.step o.dst (d.getD (.tup [])) H' s.dfs)) o.op) (fun s => Z4h A T ops K l (s.step o.dst (.tup []) s.H s.dfs))
   | _, _ => K (i :: l) s
section
variable {P : Program} {T : TT} {r : Option Nat} {m : Nat} {ops : Array Oper} {Q : AX -> St -> Prop}
theorem Z53 {s : St} {o : Oper} {Kt Kf Kt' Kf' : St -> Prop} (h : Zh ops s o Kt Kf) (ht : ∀ e, Kt { s with env := e } -> Kt' { s with env := e }) (hf : ∀ e, Kf { s with env := e } -> Kf' { s with env := e }) : Zh ops s o Kt' Kf' := by
 have h0 : Kt s -> Kt' s := ht s.env;have h1 : Kf s -> Kf' s := hf s.env;unfold Zh at h ⊢
 split at h
 ·exact h0 h
 ·split at h
  ·exact h1 h
  ·split at h
   ·exact h1 h
   ·split at h
    ·split at h <;> split at h <;> first | exact ht _ h | exact hf _ h
    ·exact h1 h
    ·exact h.elim
theorem OpA.mono {o : Oper} {s : St} {K K' : D -> List Blk -> List AD -> Prop} {X X' : D -> List Blk -> Prop} (h : OpA P r o s K X) (hk : ∀ d H ds, K d H ds -> K' d H ds) (hx : ∀ d H, X d H -> X' d H) : OpA P r o s K' X' :=
 ⟨fun F μ a w hr he next Q hn hp => h.out F μ a w hr he next Q (fun F' μ' H' w' ds dv d v h1 h1' h2 h3 => hn F' μ' H' w' ds dv d v h1 h1' h2 (hk _ _ _ h3)) (fun F' μ' H' w' d v h1 h2 h3 => hp F' μ' H' w' d v h1 h2 (hx _ _ h3))⟩
theorem Zbh {id : Nat} {s : St} (h : OpsA P r m ops Q (List.range ops.size) s) : WpA P r m (.region id ops false) Q s :=
 ⟨fun F μ a w h1 => wpIn_region (h.out F μ a w h1)⟩
end
end Go.Abs

/- Part TxAJ of the proofs about the benches of the accordion maker: see the last text of the claim for what is proved. -/
import Derived.Laws.Append
import Derived.Laws.MakeOwn
import Derived.Test.YtggilmnhgjofiaaGreatTxAI
set_option linter.unusedVariables false
set_option linter.unusedSimpArgs false
set_option linter.unnecessarySimpa false
set_option linter.constructorNameAsVariable false

namespace Go.Abs
open Go
def Z7e : D -> Bool
 | .any | .tup _ => false
 | _ => true
def stD (A : Ar) (n off : Nat) (x : D) (K : D -> Prop) : D -> Prop
 | .agg cs =>
  match Z35 x with
  | some xs => (match Nat.beq xs.length n, Nat.ble (off + n) cs.length with | true, true => K (.agg (Z7l cs off xs)) | _, _ => False)
  | none =>
   match x, off with
   | .arr ys, 0 => (match Nat.beq n cs.length with | true => A.lenIs ys n /\ K (.arr ys) | false => False)
   | _, _ => False
 | .arr cs =>
  match x, off with
  | .agg xs, 0 => (match Nat.beq xs.length n with | true => A.lenIs cs n /\ K (.agg xs) | false => False)
  | .arr ys, 0 => A.lenIs cs n /\ A.lenIs ys n /\ K (.arr ys)
  | x, off => (match Zjq x, n with | true, 1 => A.ltN off cs /\ K (.arr (A.set cs off x)) | _, _ => False)
 | .any => False
 | .tup _ => False
 | _ => (match off, n, Zjq x with | 0, 1, true => K x | _, _, _ => False)
def stS (A : Ar) (n off : Nat) (x : D) (K : D -> Prop) : D -> Prop
 | .agg cs => (match Zjq x, n with | true, 1 => A.ltN off cs /\ K (.arr (A.set cs off x)) | _, _ => False)
 | .arr cs => (match Zjq x, n with | true, 1 => A.ltN off cs /\ K (.arr (A.set cs off x)) | _, _ => False)
 | _ => False
def stP (A : Ar) (H : List Blk) (n : Nat) (x : D) (K : List Blk -> Prop) : D -> Prop
 | .b k off => (match Z1m H k with | some (.box d) => stD A n off x (fun d' => K (H.set k (.box d'))) d | _ => False)
 | .bs k off => (match Z1m H k with | some (.box d) => stS A n off x (fun d' => K (H.set k (.box d'))) d | _ => False)
 | .p k sz i off => (match Z1m H k with | some (.els sz' es) => (match Nat.beq sz sz', frD x with | true, true => Need (A.get es i) (stD A n off x fun e' => K (H.set k (.els sz (A.set es i e')))) | true, false => Need (A.get es i) (stD A n off x fun e' => K (H.set k (.elo sz (A.set es i e')))) | _, _ => False) | some (.elo sz' es) => (match Nat.beq sz sz' with | true => Need (A.get es i) (stD A n off x fun e' => K (H.set k (.elo sz (A.set es i e')))) | false => False) | _ => False)
 | _ => False
section
variable {P : Program} {T : TT} {F : Fz} {μ : Mu} {w : World}
structure Written (F : Fz) (μ : Mu) (d d' : D) (off : Nat) (v : Value) (n : Nat) : Prop where
 size : v.cells.size = n
 len : d'.cells.length = d.cells.length
 fit : off + n <= d.cells.length
 one : ∀ (i : Nat) (u : Value), v.cells[i]? = some u -> u.oneCell' = true
 rel : ∀ (r : Nat) (c : D), d'.cells[r]? = some c -> if off <= r /\ r < off + n then ∀ u, v.cells[r - off]? = some u -> VR F μ c u else d.cells[r]? = some c
theorem Zbf {x : D} (h : Zjq x = true) : Z35 x = some [x] /\ x.cells = [x] := by
 cases x <;> simp [Zjq] at h <;> exact ⟨rfl, rfl⟩
theorem CellsA.of_one {x : D} {v : Value} (h : Zjq x = true) (hv : VR F μ x v) : v.cells.size = 1 /\ (∀ (i : Nat) (u : Value), v.cells[i]? = some u -> u.oneCell' = true) /\ ∀ u, v.cells[0]? = some u -> VR F μ x u := by
 have hc := Z4g hv (Zbf h).1 (fun y e => by subst e; exact hv.v_one);exact ⟨hc.len.symm, hc.one, fun u hu => hc.rel 0 x u rfl hu⟩
theorem Zdu {d x : D} {v : Value} {cs : List D} {off : Nat} (hd : d.cells = cs) (h1 : Zjq x = true) (hv : VR F μ x v) (hlt : off < cs.length) : Written F μ d (.arr (cs.set off x)) off v 1 := by
 obtain ⟨e1, e2, e3⟩ := CellsA.of_one h1 hv;refine ⟨e1, by rw [hd]; exact List.length_set, by rw [hd]; omega, e2, fun r c hr => ?_⟩
 replace hr : (cs.set off x)[r]? = some c := hr
 rw [List.getElem?_set] at hr
 split at hr
 ·rename_i h; subst h
  cases hr
  rw [if_pos ⟨Nat.le_refl _, by omega⟩];intro u hu; rw [Nat.sub_self] at hu; exact e3 u hu
 ·rw [if_neg (by omega), hd]; exact hr
theorem Zmb {cs xs : List D} {off : Nat} (h1 : frL cs = true) (h2 : frL xs = true) : frL (Z7l cs off xs) = true := by
 rw [Z30] at *;intro d hd;simp only [Z7l, List.mem_append] at hd;rcases hd with (hd | hd) | hd
 ·exact h1 d (List.mem_of_mem_take hd)
 ·exact h2 d hd
 ·exact h1 d (List.mem_of_mem_drop hd)
theorem Zu8 {x : D} {xs : List D} (h : Z35 x = some xs) (hf : frD x = true) : frL xs = true := by
 cases x <;> simp [Z35] at h <;> subst h <;> first | (simpa only [frD] using hf) | (simp only [frL, Bool.and_true]; exact hf)
theorem Zu9 {cs : List D} {off : Nat} {x : D} (h : frL cs = true) (hx : frD x = true) : frL (cs.set off x) = true := Z30.2 (FrL.set ⟨Z30.1 h⟩ hx).out
theorem Za9 {n off : Nat} {d x : D} {v : Value} (hv : VR F μ x v) {K : D -> Prop} (h : stD ar n off x K d) : ∃ d', Written F μ d d' off v n /\ K d' /\ (frD d = true -> frD x = true -> frD d' = true) := by
 cases d
 case agg cs =>
  simp only [stD] at h
  split at h
  ·rename_i xs hxs
   split at h
   ·rename_i b1 b2
    have b1 := Nat.eq_of_beq_eq_true b1;have b2 := Nat.le_of_ble_eq_true b2;have hc := Z4g hv hxs (fun y e => by subst e; exact hv.v_one);refine ⟨.agg (Z7l cs off xs), ⟨by rw [<- hc.len, b1], Zb3 (by omega), b2, hc.one, fun r c hr => ?_⟩, h, fun g1 g2 => by simp only [frD] at g1 ⊢; exact Zmb g1 (Zu8 hxs g2)⟩;simp only [D.cells] at hr ⊢;rw [Zex (by omega), b1] at hr
    split at hr
    ·rename_i hh; rw [if_pos hh]; exact fun u hu => hc.rel _ _ _ hr hu
    ·rename_i hh; rw [if_neg hh]; exact hr
   ·exact h.elim
  ·split at h
   ·rename_i ys hlit
    split at h
    ·rename_i b1
     have b1 := Nat.eq_of_beq_eq_true b1;obtain ⟨hl, hk⟩ := h;have hl : ys.length = n := hl;obtain ⟨vs, rfl, hlen, hr, ho⟩ := hv.arr_inv;exact ⟨.arr ys, ⟨by simp only [Value.cells]; omega, by simp only [D.cells]; omega, by simp only [D.cells]; omega, ho, fun r c hrc => by
      simp only [D.cells] at hrc
      have := (List.getElem?_eq_some_iff.1 hrc).1
      rw [if_pos ⟨by omega, by omega⟩]; exact fun u hu => hr r c u hrc hu⟩, hk, fun _ g2 => g2⟩
    ·exact h.elim
   ·exact h.elim
 case arr cs =>
  simp only [stD] at h
  split at h
  ·rename_i xs
   split at h
   ·rename_i b1
    have b1 := Nat.eq_of_beq_eq_true b1;obtain ⟨hl, hk⟩ := h;have hl : cs.length = n := hl;obtain ⟨vs, rfl, hlen, hr, ho⟩ := hv.agg_inv;exact ⟨.agg xs, ⟨by simp only [Value.cells]; omega, by simp only [D.cells]; omega, by simp only [D.cells]; omega, ho, fun r c hrc => by
     simp only [D.cells] at hrc
     have := (List.getElem?_eq_some_iff.1 hrc).1
     rw [if_pos ⟨by omega, by omega⟩]; exact fun u hu => hr r c u hrc hu⟩, hk, fun _ g2 => g2⟩
   ·exact h.elim
  ·rename_i ys
   obtain ⟨hl, hl2, hk⟩ := h;have hl : cs.length = n := hl;have hl2 : ys.length = n := hl2;obtain ⟨vs, rfl, hlen, hr, ho⟩ := hv.arr_inv;exact ⟨.arr ys, ⟨by simp only [Value.cells]; omega, by simp only [D.cells]; omega, by simp only [D.cells]; omega, ho, fun r c hrc => by
    simp only [D.cells] at hrc
    have := (List.getElem?_eq_some_iff.1 hrc).1
    rw [if_pos ⟨by omega, by omega⟩]; exact fun u hu => hr r c u hrc hu⟩, hk, fun _ g2 => g2⟩
  ·split at h
   ·rename_i h1
    obtain ⟨hlt, hk⟩ := h;exact ⟨_, Zdu rfl h1 hv hlt, hk, fun g1 g2 => by simp only [frD] at g1 ⊢; exact Zu9 g1 g2⟩
   ·exact h.elim
 case any => exact h.elim
 case tup => exact h.elim
 all_goals
  simp only [stD] at h
  split at h
  ·rename_i h1
   obtain ⟨e1, e2, e3⟩ := CellsA.of_one h1 hv;refine ⟨x, ⟨e1, by rw [(Zbf h1).2]; rfl, by simp [D.cells], e2, fun r c hr => ?_⟩, h, fun _ g2 => g2⟩;rw [(Zbf h1).2] at hr
   match r, hr with
   | 0, hr => simp at hr; subst hr; rw [if_pos ⟨Nat.le_refl _, by omega⟩]; exact fun u hu => e3 u hu
   | r + 1, hr => simp at hr
  ·exact h.elim
theorem Zpa {n off : Nat} {d x : D} {v : Value} (hv : VR F μ x v) {K : D -> Prop} (h : stS ar n off x K d) : ∃ d', Written F μ d d' off v n /\ K d' := by
 cases d <;> try exact h.elim
 all_goals
  simp only [stS] at h
  split at h
  ·rename_i h1
   obtain ⟨hlt, hk⟩ := h;exact ⟨_, Zdu rfl h1 hv hlt, hk⟩
  ·exact h.elim
theorem Zc4 (hT : TOK P T) {t : TypeId} {e : TE} (he : Z1d T t = some e) {b o : Nat} {c : Array Value} {ty : TypeId} {v : Value} (hw : w.heap[b]? = some (.cells c ty (0, 0))) (hs : v.cells.size = e.size)
  (ho : ∀ (i : Nat) (u : Value), v.cells[i]? = some u -> u.oneCell' = true) (hfit : o + e.size <= c.size) :
  ∃ w' c', (storeVar t ⟨b, o, none⟩ v).run P w = .ok () w' /\ w'.heap = w.heap.setIfInBounds b (.cells c' ty (0, 0)) /\ w'.tape = w.tape /\ w'.os = w.os /\ w'.output = w.output /\ c'.size = c.size /\
   ∀ i, c'[i]? = if o <= i /\ i < o + e.size then v.cells[i - o]? else c[i]? := by
 have hst := run_storeCells_at P b o ty v.cells.toList 0 c w hw (by simp [hs]; omega) (fun u hu => by
  obtain ⟨i, hi⟩ := List.mem_iff_getElem?.1 hu
  exact ho i u (by simpa using hi))
 simp only [Nat.add_zero, Array.length_toList, hs] at hst;refine ⟨w.setRow b (c.toList.take o ++ v.cells.toList ++ c.toList.drop (o + e.size)).toArray, (c.toList.take o ++ v.cells.toList ++ c.toList.drop (o + e.size)).toArray, ?_, ?_, rfl, rfl, rfl, ?_, fun i => ?_⟩
 ·unfold storeVar;simp only [Sem.run_bind, Z6i hT he, Result.andThen_ok, hs, ne_eq, not_true_eq_false, if_false];exact hst
 ·apply Array.ext_getElem?
  intro j;simp only [World.setRow, Array.getElem?_modify, Array.getElem?_setIfInBounds];have hlt := (Array.getElem?_eq_some_iff.1 hw).1
  by_cases hj : b = j
  ·subst hj;have hget : w.heap[b] = .cells c ty (0, 0) := (Array.getElem?_eq_some_iff.1 hw).2;simp [hlt, hget]
  ·simp [hj]
 ·simp [hs]; omega
 ·have hl : (c.toList.take o).length = o := by simp; omega
  simp only [List.getElem?_toArray]
  by_cases h1 : i < o
  ·rw [List.append_assoc, List.getElem?_append_left (by omega), List.getElem?_take, if_pos h1, if_neg (by omega)]; simp
  ·rw [List.append_assoc, List.getElem?_append_right (by omega), hl]
   by_cases h2 : i < o + e.size
   ·rw [List.getElem?_append_left (by simp [hs]; omega), if_pos ⟨by omega, h2⟩]; simp
   ·rw [List.getElem?_append_right (by simp [hs]; omega), List.getElem?_drop, if_neg (by omega)];simp only [Array.length_toList, hs, Array.getElem?_toList]
    congr 1; omega
theorem Zf0 {sz i off n : Nat} {es : List D} {c c' : Array Value} {d d' : D} {v : Value} (hc : Z1l F μ sz es c) (hi : es[i]? = some d) (hw : Written F μ d d' off v n)
  (hc' : ∀ j, c'[j]? = if i * sz + off <= j /\ j < i * sz + off + n then v.cells[j - (i * sz + off)]? else c[j]?) : Z1l F μ sz (es.set i d') c' := by
 have hdsz : d.cells.length = sz := (hc i d hi).1;intro j e hj;rw [List.getElem?_set] at hj;have hilt := (List.getElem?_eq_some_iff.1 hi).1
 split at hj
 ·rename_i hij; subst hij
  cases hj
  refine ⟨by rw [hw.len, hdsz], fun r x hx => ?_⟩;have hrlt : r < sz := by have := (List.getElem?_eq_some_iff.1 hx).1; rw [hw.len, hdsz] at this; exact this
  have hrel := hw.rel r x hx;rw [hc']
  by_cases hr : off <= r /\ r < off + n
  ·rw [if_pos hr] at hrel;rw [if_pos ⟨by omega, by omega⟩];have hlt : i * sz + r - (i * sz + off) < v.cells.size := by rw [hw.size]; omega
   have e1 : i * sz + r - (i * sz + off) = r - off := by omega
   refine ⟨_, Array.getElem?_eq_getElem hlt, hw.one _ _ (Array.getElem?_eq_getElem hlt), hrel _ ?_⟩;rw [<- Array.getElem?_eq_getElem hlt, e1]
  ·rw [if_neg hr] at hrel;rw [if_neg (by omega)];exact (hc i d hi).2 r x hrel
 ·rename_i hij
  refine ⟨(hc j e hj).1, fun r x hx => ?_⟩;have hrlt : r < sz := by have := (List.getElem?_eq_some_iff.1 hx).1; rw [(hc j e hj).1] at this; exact this
  rw [hc', if_neg]
  ·exact (hc j e hj).2 r x hx
  ·have hfit := hw.fit;rw [hdsz] at hfit;intro ⟨g1, g2⟩;rcases Nat.lt_or_gt_of_ne hij with h | h
   ·have : (i + 1) * sz <= j * sz := Nat.mul_le_mul_right _ h;rw [Nat.add_mul] at this; omega
   ·have : (j + 1) * sz <= i * sz := Nat.mul_le_mul_right _ h;rw [Nat.add_mul] at this; omega
theorem Zpb (hT : TOK P T) {t : TypeId} {e : TE} (he : Z1d T t = some e) {H : List Blk} (hr : HR F μ H w) {p x : D} {vp vx : Value} (hp : VR F μ p vp) (hx : VR F μ x vx) {K : List Blk -> Prop} (h : stP ar H e.size x K p) :
  ∃ H' w', (Instr.storeAt t vp vx).run P w = .ok () w' /\ HR F μ H' w' /\ Post F μ H w F μ H' w' /\ H'.length = H.length /\ (∀ k y, Z13 H k = some y -> Z13 H' k = some y) /\ K H' := by
 have fin : ∀ {k sz b m i off : Nat} {es : List D} {d d' : D} {y : Blk}, Z17 H k = some (sz, es) -> μ k = some (some (b, m)) -> es[i]? = some d -> Written F μ d d' off vx e.size -> BFr y -> y.es = some (sz, es.set i d') -> K (H.set k y) -> vp = .pointer (some ⟨b, i * sz + off, none⟩) ->
   ∃ H' w', (Instr.storeAt t vp vx).run P w = .ok () w' /\ HR F μ H' w' /\ Post F μ H w F μ H' w' /\ H'.length = H.length /\ (∀ k y, Z13 H k = some y -> Z13 H' k = some y) /\ K H' := fun {k sz b m i off es d d' y} hb hμ hi hwr hbf hy hk hvp => by
  rcases hr.row k sz es hb (by rw [hμ]; simp) with ⟨e1, -⟩ | ⟨b', m', c, ty, e1, hw, hcs, hsz, hc⟩
  ·rw [hμ] at e1; cases e1
  ·rw [hμ] at e1; cases e1;have hdsz : d.cells.length = sz := (hc i d hi).1;have hilt := (List.getElem?_eq_some_iff.1 hi).1;have hfit : i * sz + off + e.size <= c.size := by
    have h1 := hwr.fit;have h2 : (i + 1) * sz <= es.length * sz := Nat.mul_le_mul_right _ hilt;rw [Nat.add_mul] at h2; omega
   obtain ⟨w', c', g1, g2, g3, g4, g5, g6, g7⟩ := Zc4 hT he (P := P) (o := i * sz + off) hw hwr.size hwr.one hfit;obtain ⟨r1, r2⟩ := Zqx hr hb hμ hw g2 g3 g4 g5 (by rw [g6, hcs]) hbf hy (by simpa using hsz) (Zf0 hc hi hwr g7);exact ⟨_, w', by rw [hvp]; simp only [Instr.storeAt, Instr.sureAddr, Sem.run_bind, Sem.run_pure, Result.andThen_ok, g1], r1, r2, by simp, fun j z hz => by
    have hne : k ≠ j := by rintro rfl; rw [Z6w hz] at hb; cases hb
    unfold Z13 at hz ⊢; rw [List.getElem?_set, if_neg hne]; exact hz, hk⟩
 cases p <;> try exact h.elim
 case b k off =>
  simp only [stP] at h
  split at h
  ·rename_i d hd
   obtain ⟨d', hwr, hk, -⟩ := Za9 hx h
   cases hp with
   | cl _ _ hc => cases hc
   | b _ _ b m hμ =>
    refine fin (Z7c hd) hμ (i := 0) rfl hwr (fun _ _ e => by cases e) ?_ hk (by simp);simp [Blk.es, hwr.len]
  ·exact h.elim
 case bs k off =>
  simp only [stP] at h
  split at h
  ·rename_i d hd
   obtain ⟨d', hwr, hk⟩ := Zpa hx h
   cases hp with
   | cl _ _ hc => cases hc
   | bs _ _ b m hμ =>
    refine fin (Z7c hd) hμ (i := 0) rfl hwr (fun _ _ e => by cases e) ?_ hk (by simp);simp [Blk.es, hwr.len]
  ·exact h.elim
 case p k sz i off =>
  simp only [stP] at h
  split at h
  ·rename_i sz' es hd
   split at h
   ·rename_i hsz hfx
    obtain rfl := Nat.eq_of_beq_eq_true hsz;obtain ⟨e1, he1, hk⟩ := h.out;obtain ⟨d', hwr, hk, hfr⟩ := Za9 hx hk;have hfe : FrL es := hr.fr k _ (by rw [<- Z1u]; exact hd) _ _ rfl
    cases hp with
    | cl _ _ hc => cases hc
    | p _ _ _ _ b m hμ => exact fin (Z5f hd) hμ he1 hwr (fun _ _ e => by cases e; exact hfe.set (hfr (hfe.out e1 (List.mem_of_getElem? he1)) hfx)) rfl hk rfl
   ·rename_i hsz hfx
    obtain rfl := Nat.eq_of_beq_eq_true hsz;obtain ⟨e1, he1, hk⟩ := h.out;obtain ⟨d', hwr, hk, -⟩ := Za9 hx hk
    cases hp with
    | cl _ _ hc => cases hc
    | p _ _ _ _ b m hμ => exact fin (Z5f hd) hμ he1 hwr (fun _ _ e => by cases e) rfl hk rfl
   ·exact h.elim
  ·rename_i sz' es hd
   split at h
   ·rename_i hsz
    obtain rfl := Nat.eq_of_beq_eq_true hsz;obtain ⟨e1, he1, hk⟩ := h.out;obtain ⟨d', hwr, hk, -⟩ := Za9 hx hk
    cases hp with
    | cl _ _ hc => cases hc
    | p _ _ _ _ b m hμ => exact fin (Z8e hd) hμ he1 hwr (fun _ _ e => by cases e) rfl hk rfl
   ·exact h.elim
  ·exact h.elim
end
end Go.Abs

namespace Go.Abs
open Go
def Zua (A : Ar) (H : List Blk) (sz : Nat) (K : List D -> Nat -> Prop) : D -> Prop
 | .sl sz' es => (match Nat.beq sz sz' with | true => K es (A.len es) | false => False)
 | .o k sz' n => (match Z1m H k, Nat.beq sz sz' with | some (.els sz2 es), true => (match Nat.beq sz sz2 with | true => A.eqN n (A.len es) /\ K es n | false => False) | _, _ => False)
 | .v (.slice none 0 0) => K [] 0
 | .z0 => K [] 0
 | _ => False
def Zub (A : Ar) (T : TT) (H : List Blk) (t t2 : TypeId) (K : Option D -> List Blk -> Prop) (d2 : D) : Prop :=
 match Z1d T t, Nat.beq t t2 with
 | some e, true =>
  match e.el with
  | some (none, el) =>
   match Z1d T el with
   | some e2 =>
    match e2.size with
    | 0 => False
    | sz + 1 => Zua A H (sz + 1) (fun ys m => A.room m e2.bytes /\ K (some (.o H.length (sz + 1) m)) (H ++ [.els (sz + 1) ys])) d2
   | none => False
  | _ => False
 | _, _ => False
def Zwh (A : Ar) (T : TT) (H : List Blk) (t t2 : TypeId) (K : Option D -> List Blk -> Prop) (d2 : D) : D -> Prop
 | .o k sz n =>
  match Z1d T t, Nat.beq t t2 with
  | some e, true =>
   match e.el with
   | some (none, el) =>
    match Z1d T el, Z1m H k with
    | some e2, some (.els sz' es) =>
     match Nat.beq sz sz', Nat.beq sz e2.size, sz with
     | true, true, _ + 1 => A.eqN n (A.len es) /\ Zua A H sz (fun ys m => A.room (A.addN n m) e2.bytes /\ K (some (.o H.length sz (A.addN n m))) (H.set k .dead ++ [.els sz (A.app es ys)])) d2
     | _, _, _ => False
    | _, _ => False
   | _ => False
  | _, _ => False
 | .v (.slice none 0 0) => Zub A T H t t2 K d2
 | .z0 => Zub A T H t t2 K d2
 | _ => False
section
variable {P : Program} {T : TT} {F : Fz} {μ : Mu} {w : World}
theorem Zgn {sz : Nat} (hsz : 0 < sz) {ys : List D} {b o : Nat}
  (h : ∀ (i : Nat) (e : D), ys[i]? = some e -> e.cells.length = sz /\ ∀ (r : Nat) (c : D), e.cells[r]? = some c -> ∃ v, w.cell? ⟨b, o + i * sz + r, none⟩ = some v /\ v.oneCell' = true /\ VR F μ c v) :
  ∃ news : List Value, news.length = ys.length * sz /\ (∀ j u, news[j]? = some u -> w.cell? ((⟨b, o, none⟩ : Addr).add j) = some u) /\ (∀ u ∈ news, u.oneCell' = true) /\ Z1l F μ sz ys news.toArray := by
 let f : Nat -> Value := fun j => (w.cell? ⟨b, o + j, none⟩).getD undef
 have hf : ∀ i (e : D) r (c : D), ys[i]? = some e -> e.cells[r]? = some c -> w.cell? ⟨b, o + (i * sz + r), none⟩ = some (f (i * sz + r)) /\ (f (i * sz + r)).oneCell' = true /\ VR F μ c (f (i * sz + r)) := fun i e r c he hc => by
  obtain ⟨v, h1, h2, h3⟩ := (h i e he).2 r c hc;rw [Nat.add_assoc] at h1;have : f (i * sz + r) = v := by simp only [f, h1]; rfl
  rw [this]; exact ⟨h1, h2, h3⟩
 have hg : ∀ j, j < ys.length * sz -> w.cell? ⟨b, o + j, none⟩ = some (f j) /\ (f j).oneCell' = true := fun j hj => by
  have h1 : j / sz < ys.length := Nat.div_lt_of_lt_mul (by rwa [Nat.mul_comm]);have h2 : j % sz < sz := Nat.mod_lt _ hsz;have e1 := List.getElem?_eq_getElem h1;have hl := (h _ _ e1).1;have e2 := List.getElem?_eq_getElem (l := ys[j / sz].cells) (show j % sz < ys[j / sz].cells.length by omega);have := hf _ _ _ _ e1 e2;have e3 : j / sz * sz + j % sz = j := Nat.div_add_mod' j sz;rw [e3] at this;exact ⟨this.1, this.2.1⟩
 refine ⟨(List.range (ys.length * sz)).map f, by simp, fun j u hj => ?_, fun u hu => ?_, fun i e he => ⟨(h i e he).1, fun r c hc => ?_⟩⟩
 ·simp only [List.getElem?_map, Option.map_eq_some_iff] at hj;obtain ⟨x, hx, rfl⟩ := hj;obtain ⟨hlt, rfl⟩ := List.getElem?_eq_some_iff.1 hx;simp only [List.length_range] at hlt;rw [add_lit]; simp only [List.getElem_range]; exact (hg j hlt).1
 ·simp only [List.mem_map, List.mem_range] at hu;obtain ⟨j, hj, rfl⟩ := hu;exact (hg j hj).2
 ·obtain ⟨h1, h2, h3⟩ := hf i e r c he hc;refine ⟨_, ?_, h2, h3⟩;have hi := (List.getElem?_eq_some_iff.1 he).1;have hr := (List.getElem?_eq_some_iff.1 hc).1;rw [(h i e he).1] at hr;have : (i + 1) * sz <= ys.length * sz := Nat.mul_le_mul_right _ hi;rw [Nat.add_mul] at this;have hlt : i * sz + r < ys.length * sz := by omega
  simp [hlt]
theorem Zwc {d : D} {v : Value} (h : CR F d v) : frD d = true := by
 induction h with
 | agg cs vs hl _ ho ih => exact Z30.2 fun c hc => let ⟨i, hi⟩ := List.mem_iff_getElem?.1 hc; ih i c _ hi (Array.getElem?_eq_getElem (by have := (List.getElem?_eq_some_iff.1 hi).1; omega))
 | arr cs vs hl _ ho ih => exact Z30.2 fun c hc => let ⟨i, hi⟩ := List.mem_iff_getElem?.1 hc; ih i c _ hi (Array.getElem?_eq_getElem (by have := (List.getElem?_eq_some_iff.1 hi).1; omega))
 | tup cs vs hl _ ih => exact Z30.2 fun c hc => let ⟨i, hi⟩ := List.mem_iff_getElem?.1 hc; ih i c _ hi (Array.getElem?_eq_getElem (by have := (List.getElem?_eq_some_iff.1 hi).1; omega))
 | fn f cs vs hl _ ih => exact Z30.2 fun c hc => let ⟨i, hi⟩ := List.mem_iff_getElem?.1 hc; ih i c _ hi (Array.getElem?_eq_getElem (by have := (List.getElem?_eq_some_iff.1 hi).1; omega))
 | ifc t d v _ ih => exact ih
 | _ => rfl
theorem Zgo {d : D} {v : Value} (h : VR F μ d v) : frD d = true -> CR F d v := by
 induction h with
 | cl d v h => exact fun _ => h
 | agg cs vs hl _ ho ih =>
  intro hf;simp only [frD] at hf;exact .agg cs vs hl (fun i c v hc hv => ih i c v hc hv (Z30.1 hf c (List.mem_of_getElem? hc))) ho
 | arr cs vs hl _ ho ih =>
  intro hf;simp only [frD] at hf;exact .arr cs vs hl (fun i c v hc hv => ih i c v hc hv (Z30.1 hf c (List.mem_of_getElem? hc))) ho
 | tup cs vs hl _ ih =>
  intro hf;simp only [frD] at hf;exact .tup cs vs hl (fun i c v hc hv => ih i c v hc hv (Z30.1 hf c (List.mem_of_getElem? hc)))
 | fn f cs vs hl _ ih =>
  intro hf;simp only [frD] at hf;exact .fn f cs vs hl (fun i c v hc hv => ih i c v hc hv (Z30.1 hf c (List.mem_of_getElem? hc)))
 | ifc t d v _ ih => intro hf; simp only [frD] at hf; exact .ifc t d v (ih hf)
 | b k off b m h => intro hf; simp [frD] at hf
 | bs k off b m h => intro hf; simp [frD] at hf
 | p k sz i off b m h => intro hf; simp [frD] at hf
 | o k sz n b m cap h hc hm => intro hf; simp [frD] at hf
 | oNil k sz a h => intro hf; simp [frD] at hf
 | yv k b m h => intro hf; simp [frD] at hf
 | mv k b m h => intro hf; simp [frD] at hf
theorem Zjx {d : D} (h : ∀ (r : Nat) (c : D), d.cells[r]? = some c -> frD c = true) : frD d = true := by
 cases d <;> first
  | exact Z30.2 fun c hc => let ⟨i, hi⟩ := List.mem_iff_getElem?.1 hc; h i c hi
  | exact h 0 _ rfl
theorem Zxk {sz : Nat} {es : List D} {v : Value} (h : CR F (.sl sz es) v) : FrL es := by
 cases h with
 | slE _ _ _ => exact .nil
 | sl _ _ b o c val hc hz hf hv => exact ⟨fun e he => let ⟨i, hi⟩ := List.mem_iff_getElem?.1 he; Zjx fun r c hr => Zwc (hv i e r c hi hr)⟩
theorem Zf1 {H : List Blk} (hr : HR F μ H w) {sz : Nat} (hsz : 0 < sz) {d : D} {v : Value} (hv : VR F μ d v) {K : List D -> Nat -> Prop} (h : Zua ar H sz K d) :
  ∃ ys m x c, v = .slice x m c /\ ys.length = m /\ FrL ys /\ K ys m /\ (0 < m -> ∃ a, x = some a /\ ∃ news : List Value, news.length = m * sz /\ (∀ j u, news[j]? = some u -> w.cell? (a.add j) = some u) /\ (∀ u ∈ news, u.oneCell' = true) /\ Z1l F μ sz ys news.toArray) := by
 unfold Zua at h
 split at h
 ·rename_i sz' es
  split at h
  ·rename_i hb
   obtain rfl := Nat.eq_of_beq_eq_true hb
   cases hv with
   | cl _ _ hc =>
    cases hc with
    | slE _ x c => exact ⟨[], 0, x, c, rfl, rfl, .nil, h, fun h => absurd h (by omega)⟩
    | sl _ _ b o c val hc hz hf hvv =>
     refine ⟨es, es.length, _, c, rfl, rfl, Zxk (.sl _ es b o c val hc hz hf hvv), h, fun _ => ⟨_, rfl, ?_⟩⟩;exact Zgn hsz (fun i e he => ⟨hz i e he, fun r c hc => ⟨_, (hr.frz _ _ _ (hf i e r c he hc).1).1, (hf i e r c he hc).2, .cl _ _ (hvv i e r c he hc)⟩⟩)
  ·exact h.elim
 ·rename_i k sz' n
  split at h
  ·rename_i sz2 es hb h1
   obtain rfl := Nat.eq_of_beq_eq_true h1
   split at h
   ·rename_i h2
    obtain rfl := Nat.eq_of_beq_eq_true h2;obtain ⟨hn, hk⟩ := h;have hn : n = es.length := hn
    cases hv with
    | cl _ _ hc => cases hc
    | o _ _ _ b m cap hμ hc hm =>
     refine ⟨es, n, _, cap, rfl, hn.symm, hr.fr k _ (by rw [<- Z1u]; exact hb) _ _ rfl, hk, fun _ => ⟨_, rfl, ?_⟩⟩;rw [hn];refine Zgn hsz (fun i e he => ⟨?_, fun r c hc => by simpa using hr.cells (Z5f hb) hμ i e he r c hc⟩);rcases hr.row k _ _ (Z5f hb) (by rw [hμ]; simp) with ⟨e1, -⟩ | ⟨_, _, _, _, _, _, _, _, hcr⟩
     ·rw [hμ] at e1; cases e1
     ·exact (hcr i e he).1
    | oNil _ _ ad hμ =>
     exact ⟨es, 0, ad, 0, rfl, hn.symm, hr.fr k _ (by rw [<- Z1u]; exact hb) _ _ rfl, hk, fun h => absurd h (by omega)⟩
   ·exact h.elim
  ·exact h.elim
 ·obtain rfl := hv.v_inv;exact ⟨[], 0, none, 0, rfl, rfl, .nil, h, fun h => absurd h (by omega)⟩
 ·cases hv with | cl _ _ hc => cases hc with | z0 ad => exact ⟨[], 0, ad, 0, rfl, rfl, .nil, h, fun h => absurd h (by omega)⟩
 ·exact h.elim
theorem Z8g {sz : Nat} {es ys : List D} {c news c' : Array Value} (h1 : Z1l F μ sz es c) (h2 : Z1l F μ sz ys news) (hn : news.size = ys.length * sz)
  (hc : ∀ j, j < es.length * sz -> c'[j]? = c[j]?) (hc2 : ∀ j, j < news.size -> c'[es.length * sz + j]? = news[j]?) : Z1l F μ sz (es ++ ys) c' := by
 intro i e he
 by_cases hi : i < es.length
 ·rw [List.getElem?_append_left hi] at he;refine ⟨(h1 i e he).1, fun r d hd => ?_⟩;have hr := (List.getElem?_eq_some_iff.1 hd).1;rw [(h1 i e he).1] at hr;have : (i + 1) * sz <= es.length * sz := Nat.mul_le_mul_right _ hi;rw [Nat.add_mul] at this;rw [hc _ (by omega)]; exact (h1 i e he).2 r d hd
 ·rw [List.getElem?_append_right (by omega)] at he;refine ⟨(h2 _ e he).1, fun r d hd => ?_⟩;have hr := (List.getElem?_eq_some_iff.1 hd).1;rw [(h2 _ e he).1] at hr;have hlt := (List.getElem?_eq_some_iff.1 he).1;have : (i - es.length + 1) * sz <= ys.length * sz := Nat.mul_le_mul_right _ hlt;rw [Nat.add_mul] at this;have e1 : i * sz + r = es.length * sz + ((i - es.length) * sz + r) := by
   have : i = es.length + (i - es.length) := by omega
   rw [this, Nat.add_mul]; simp; omega
  rw [e1, hc2 _ (by omega)]; exact (h2 _ e he).2 r d hd
theorem Zpc {H : List Blk} (h : HR F μ H w) {k k' sz : Nat} {es : List D} {x y : Blk} {p : Option (Nat × Nat)} (hbf : BFr x) (hbf2 : BFr y) (hb : Z17 H k = some (sz, es)) (hμ : μ k = some p) (hx : x.es = some (sz, es)) (hy : y.live = false)
  (hn : μ k' = none) (hle0 : k' <= H.length) : HR F (Z4v μ k' p) (Z4l (H.set k y) k' x) w /\ Post F μ H w F (Z4v μ k' p) (Z4l (H.set k y) k' x) w /\ (∀ j z, μ j = some z -> Z4v μ k' p j = some z) := by
 have hne : k ≠ k' := by rintro rfl; rw [hμ] at hn; cases hn
 have hkl := Z7k hb;have hle : k' <= (H.set k y).length := by simpa using hle0
 have hget : ∀ j, (Z4l (H.set k y) k' x)[j]? = if j = k' then some x else if j = k then some y else H[j]? := fun j => by
  rw [Z2m x hle];have := Z2m (H := H) y (Nat.le_of_lt hkl) j;rw [Z4l, if_pos hkl] at this;rw [this]
 have hd : Z20 (Z4l (H.set k y) k' x) k = false := by rw [Z6x (by rw [hget, if_neg hne, if_pos rfl])]; exact hy
 have hself := Z6h μ k' p;have hnob : ∀ z : OB, Z13 (Z4l (H.set k y) k' x) k' = some z -> False := fun z hz => by
  rw [Zep x hle, if_pos rfl] at hz
  cases x <;> simp [Blk.es, Blk.obj] at hx hz
 refine Z5e (fun j => j = k ∨ j = k') h (by have := (Z7b (H := H.set k y) (k := k') x).1; simpa using this) (fun j hj => by rw [hget, if_neg (fun e => hj (.inr e)), if_neg (fun e => hj (.inl e))]) (fun j hj => Z2k _ (fun e => hj (.inr e))) (fun j b _ => Iff.rfl)
  (fun j hj z hz => by
   rcases hj with rfl | rfl
   ·rw [Z2k _ hne]; exact hz
   ·rw [hn] at hz; cases hz) (Nat.le_refl _) rfl rfl rfl (fun b _ _ => rfl) (fun k1 b hk1 hl hf => ?_) (fun k1 k2 b h1 h2 l1 l2 _ _ => ?_) (fun k1 hk1 hle1 => ?_) (fun hmono k1 sz1 es1 hk1 hb1 _ => ?_) (fun k1 z hk1 hb1 b => ?_) (fun _ k1 z hk1 hz _ => ?_) (fun k1 hk1 he => ?_) (fun k1 z hk1 hz => ?_)
 ·rcases hk1 with rfl | rfl
  ·rw [hd] at hl; cases hl
  ·refine .inl ⟨k, .inl rfl, Z15 hb, ?_⟩;rcases hf with ⟨m, hm⟩ | hf
   ·rw [hself] at hm; cases hm; exact .inl ⟨m, hμ⟩
   ·exact absurd hf (h.non _ hn b)
 ·rcases h1 with rfl | rfl
  ·rw [hd] at l1; cases l1
  ·rcases h2 with rfl | rfl
   ·rw [hd] at l2; cases l2
   ·rfl
 ·rcases hk1 with rfl | rfl
  ·have := (Z7b (H := H.set k1 y) (k := k') x).1; simp at this; omega
  ·have := Zi4 x hle; omega
 ·rcases hk1 with rfl | rfl
  ·have := Z15 hb1; rw [hd] at this; cases this
  ·rw [Zbz x hle, if_pos rfl, hx] at hb1; cases hb1;rcases h.row k sz es hb (by rw [hμ]; simp) with ⟨e1, e2⟩ | ⟨b, m, c, t, e1, e2, e3, e4, e5⟩
   ·rw [hμ] at e1; cases e1; exact .inl ⟨hself, e2⟩
   ·rw [hμ] at e1; cases e1;exact .inr ⟨b, m, c, t, hself, e2, e3, e4, e5.mono (fun _ _ _ e => e) hmono⟩
 ·rcases hk1 with rfl | rfl
  ·exact h.plain _ _ hb b
  ·exact h.non _ hn b
 ·rcases hk1 with rfl | rfl
  ·have := Z2j hz; rw [hd] at this; cases this
  ·exact (hnob z hz).elim
 ·rcases hk1 with rfl | rfl
  ·rw [Z2k _ hne] at he; rw [hμ] at he; cases he
  ·rw [hself] at he; cases he
 ·rcases hk1 with rfl | rfl
  ·rw [hget, if_neg hne, if_pos rfl] at hz; cases hz; exact hbf2
  ·rw [hget, if_pos rfl] at hz; cases hz; exact hbf
theorem Zc5 {H : List Blk} (h : HR F μ H w) {k sz : Nat} (hn : μ k = none) (hle : k <= H.length) :
  HR F (Z4v μ k none) (Z4l H k (.els sz [])) w /\ Post F μ H w F (Z4v μ k none) (Z4l H k (.els sz [])) w /\ (∀ j y, μ j = some y -> Z4v μ k none j = some y) := by
 have hat := Z6h μ k none;refine Z5e (fun j => j = k) h (Z7b _).1 (fun j hj => by rw [Z2m _ hle, if_neg hj]) (fun j hj => Z2k _ hj) (fun j b _ => Iff.rfl) (fun j hj y hy => by subst hj; rw [hn] at hy; cases hy) (Nat.le_refl _) rfl rfl rfl
  (fun b hb _ => rfl) (fun k' b hk' _ hf => ?_) (fun k1 k2 b h1 h2 _ _ _ _ => h1.trans h2.symm) (fun k' hk' hle' => ?_) (fun hmono k' sz' es' hk' hb _ => ?_) (fun k' y hk' _ b => by subst hk'; exact h.non k' hn b)
  (fun _ k' y hk' hy _ => ?_) (fun k' hk' he => by subst hk'; rw [hat] at he; cases he) (fun k' y hk' hy => ?_)
 ·subst hk';rcases hf with ⟨m, hm⟩ | hf
  ·rw [hat] at hm; cases hm
  ·exact absurd hf (h.non _ hn b)
 ·subst hk';have := Zi4 (Blk.els sz []) hle; omega
 ·subst hk';rw [Zbz _ hle, if_pos rfl] at hb;simp only [Blk.es, Option.some.injEq, Prod.mk.injEq] at hb;exact .inl ⟨hat, hb.2.symm⟩
 ·subst hk';rw [Zep _ hle, if_pos rfl] at hy; cases hy
 ·subst hk';rw [Z2m _ hle, if_pos rfl] at hy; cases hy;exact fun sz es e => by cases e; exact .nil
end
end Go.Abs

namespace Go.Abs
open Go
def Z8h (n sz : Nat) : List (Nat × Option D) -> Nat -> Option (List D)
 | [], j => if j = n then some [] else none
 | (i, some d) :: r, j =>
  match Nat.beq i j, Z35 d with
  | true, some xs => (match Nat.beq xs.length sz, Z8h n sz r (j + 1) with | true, some l => some (d :: l) | _, _ => none)
  | _, _ => none
 | (_, none) :: _, _ => none
def Zpd (T : TT) (t : TypeId) (n : Nat) (parts : List (Nat × Option D)) (K : Blk -> (Nat -> D) -> Prop) : Prop :=
 match Z1d T t with
 | some e =>
  match e.el with
  | some (none, el) =>
   match Z1d T el with
   | some e2 =>
    match Z8h n e2.size parts 0, Nat.ble (n * e2.size) 16777216, e2.size with
    | some es, true, _ + 1 => (match frL es with | true => K (.els e2.size es) fun k => .o k e2.size n | false => K (.elo e2.size es) fun k => .o k e2.size n)
    | _, _, _ => False
   | none => False
  | _ => False
 | none => False
def Zie : Operand -> Operand -> Bool
 | .tmp a, .tmp b => Nat.beq a b
 | .const (.int _ n), .const (.int _ m) => decide (n = m)
 | _, _ => false
def Zpe (A : Ar) (T : TT) (t : TypeId) (same : Bool) (n : Option D) (K : Blk -> (Nat -> D) -> Prop) : Prop :=
 match Z1d T t, same, n with
 | some e, true, some (.v (.int _ n)) =>
  match e.el with
  | some (none, el) =>
   match Z1d T el with
   | some e2 => A.nneg n /\ A.room (A.tn n) e2.bytes /\ (match Z35 e2.zero with | some _ => K (.els e2.size (A.rep (A.tn n) e2.zero)) (fun k => .o k e2.size (A.tn n)) | none => False)
   | none => False
  | _ => False
 | _, _, _ => False
def Z5g (A : Ar) (T : TT) (s : St) (K : Blk -> (Nat -> D) -> Prop) : Op -> Prop
 | .alloc t => (match Z1d T t with | some e => (match Z7e e.zero with | true => K (.box e.zero) (fun k => .b k 0) | false => False) | none => False)
 | .box _ x => (match evo s.env x with | some d => (match Z7e d with | true => K (.box d) (fun k => .b k 0) | false => False) | none => False)
 | .buildSlice t n parts => Zpd T t n (parts.toList.map fun (i, x) => (i, evo s.env x)) K
 | .makeSlice t n c => Zpe A T t (Zie n c) (evo s.env n) K
 | _ => False
def Znt (A : Ar) (T : TT) (H : List Blk) (t : TypeId) (K : Option D -> List Blk -> Prop) (key val : D) : D -> Prop
 | .mv k =>
  match Zc3 T t, Z1m H k, frD val with
  | some (kn, _), some (.ob (.mp kn' ents)), true => (match Nat.beq kn kn' with | true => KeyIs kn key fun l => K none (H.set k (.ob (.mp kn (A.mput ents l val)))) | false => False)
  | _, _, _ => False
 | _ => False
def wA (A : Ar) (T : TT) (s : St) (K : Option D -> List Blk -> Prop) : Op -> Prop
 | .store t p x => (match Z1d T t, evo s.env p, evo s.env x with | some e, some dp, some dx => stP A s.H e.size dx (fun H' => K none H') dp | _, _, _ => False)
 | .call { callee := .builtin .append, args, argTypes } =>
  match args.toList, argTypes.toList with
  | [x, y], [t, t2] => (match evo s.env x, evo s.env y with | some d1, some d2 => Zwh A T s.H t t2 K d2 d1 | _, _ => False)
  | _, _ => False
 | .makeMap t none => (match Zc3 T t with | some (kn, _) => K (some (.mv s.H.length)) (s.H ++ [.ob (.mp kn [])]) | none => False)
 | .insert t m k v => (match evo s.env m, evo s.env k, evo s.env v with | some dm, some dk, some dv => Znt A T s.H t K dk dv dm | _, _, _ => False)
 | .mapUpdate t m k v => (match evo s.env m, evo s.env k, evo s.env v with | some dm, some dk, some dv => Znt A T s.H t K dk dv dm | _, _, _ => False)
 | _ => False
section
variable {P : Program} {T : TT} {F : Fz} {μ : Mu} {w : World}
theorem Mks.app (μ : Mu) (H : List Blk) (x : Blk) (k : Nat) (p : Option (Nat × Nat)) : Mks μ H (Z4v μ k p) (H ++ [x]) := fun _ h => ⟨Z41 x h, fun _ h => h⟩
theorem Mks.set_app {μ : Mu} {H : List Blk} {k : Nat} {z : Nat × List D} (x y : Blk) (j : Nat) (p : Option (Nat × Nat)) (hb : Z17 H k = some z) : Mks μ H (Z4v μ j p) (H.set k x ++ [y]) := fun _ h => ⟨Z41 y (Z95 x hb h), fun _ h => h⟩
structure Left2 (F : Fz) (μ : Mu) (H : List Blk) (w : World) (μ' : Mu) (H' : List Blk) (w' : World) : Prop where
 hr : HR F μ' H' w'
 post : Post F μ H w F μ' H' w'
 mono : ∀ j y, μ j = some y -> μ' j = some y
 len : H.length <= H'.length
 same : ∀ j, j < H.length -> μ' j = μ j
 mks : Mks μ H μ' H'
structure Made (P : Program) (F : Fz) (μ : Mu) (w : World) (x : Blk) (mk : Nat -> D) (r : Result Value) : Prop where
 out : BFr x /\ ∃ sz es c t v, x.es = some (sz, es) /\ r = .ok v (w.alloc (.cells c t)) /\ Z1l F μ sz es c /\ es.length * sz <= c.size /\ ∀ (k : Nat) (μ' : Mu), μ' k = some (some (w.heap.size, c.size)) -> VR F μ' (mk k) v
theorem Z6y (H : List Blk) (x : Blk) : Z4l H H.length x = H ++ [x] := by unfold Z4l; rw [if_neg (Nat.lt_irrefl _)]
theorem Zgp {d : D} {v : Value} (hv : VR F μ d v) (hb : Z7e d = true) : Z1l F μ d.cells.length [d] v.cells /\ d.cells.length = v.cells.size := by
 have main : ∀ {cs : List D} {vs : Array Value}, d.cells = cs -> cs.length = vs.size -> (∀ (i : Nat) (c : D) (v : Value), cs[i]? = some c -> vs[i]? = some v -> VR F μ c v) -> (∀ (i : Nat) (v : Value), vs[i]? = some v -> v.oneCell' = true) -> Z1l F μ d.cells.length [d] vs /\ d.cells.length = vs.size :=
  fun {cs vs} hcs hl hr ho => ⟨fun i e he => by
   match i, he with
   | 0, he =>
    simp at he; subst he
    refine ⟨rfl, fun r c hc => ?_⟩
    rw [hcs] at hc
    have hlt : r < vs.size := by have := (List.getElem?_eq_some_iff.1 hc).1; omega
    exact ⟨vs[r], by simp [hlt], ho _ _ (Array.getElem?_eq_getElem hlt), hr _ _ _ hc (Array.getElem?_eq_getElem hlt)⟩
   | i + 1, he => simp at he, by rw [hcs, hl]⟩
 cases hlc : Z35 d with
 | some xs =>
  have hc := Z4g hv hlc (fun y e => by subst e; exact hv.v_one);have : d.cells = xs := by cases d <;> simp [Z35] at hlc <;> first | exact hlc | (subst hlc; rfl)
  exact main this hc.len hc.rel hc.one
 | none =>
  cases d <;> simp [Z35, Z7e] at hlc hb
  obtain ⟨vs, rfl, hl, hr, ho⟩ := hv.arr_inv;exact main rfl hl hr ho
theorem Z9b {d : D} {xs : List D} (h : Z35 d = some xs) : d.cells = xs := by
 cases d <;> simp [Z35] at h <;> first | exact h | (subst h; rfl)
theorem Zgq {n sz : Nat} : ∀ {ps : List (Nat × Option D)} {j : Nat} {l : List D}, Z8h n sz ps j = some l -> j <= n
 | [], j, l, h => by
  simp only [Z8h] at h
  split at h
  ·omega
  ·cases h
 | (q1, none) :: qs, j, l, h => by cases h
 | (q1, some d) :: qs, j, l, h => by
  simp only [Z8h] at h
  split at h
  ·split at h
   ·rename_i h2; have := Zgq h2; omega
   ·cases h
  ·cases h
theorem Zc6 {s : St} {a : Act} (h : ER F μ s a) {n sz : Nat} : ∀ (parts : List (Nat × Operand)) (j : Nat) (es : List D) (vs : Array Value), Z8h n sz (parts.map fun (i, x) => (i, evo s.env x)) j = some es -> vs.size = n * sz -> j <= n ->
  ∃ vs', Instr.fill (fun i => some (i * sz, sz)) vs (parts.map fun (i, x) => (i, a.eval x)) = some vs' /\ vs'.size = n * sz /\ j + es.length = n /\ (∀ i, i < j * sz -> vs'[i]? = vs[i]?) /\
   (∀ i e, es[i]? = some e -> e.cells.length = sz /\ ∀ r d, e.cells[r]? = some d -> ∃ v, vs'[(j + i) * sz + r]? = some v /\ v.oneCell' = true /\ VR F μ d v)
 | [], j, es, vs, he, hs, hj => by
  simp only [List.map_nil, Z8h] at he
  split at he
  ·rename_i hjn; cases he
   exact ⟨vs, rfl, hs, by simp [hjn], fun _ _ => rfl, fun i e he => by simp at he⟩
  ·cases he
 | (i, x) :: parts, j, es, vs, he, hs, hj => by
  simp only [List.map_cons] at he ⊢
  cases hx : evo s.env x with
  | none => simp [hx, Z8h] at he
  | some d =>
   rw [hx] at he;simp only [Z8h] at he
   split at he
   ·rename_i xs hb hlc
    obtain rfl := Nat.eq_of_beq_eq_true hb
    split at he
    ·rename_i l hb2 hl
     have hb2 := Nat.eq_of_beq_eq_true hb2
     cases he
     have hv := h.evo hx;have hc := Z4g hv hlc (fun y e => by subst e; exact hv.v_one);have hsz : (a.eval x).cells.size = sz := by rw [<- hc.len, hb2]
     have hjn : i + 1 <= n := by
      exact Zgq hl
     have hle : i * sz + sz <= n * sz := by
      have : (i + 1) * sz <= n * sz := Nat.mul_le_mul_right _ hjn;rw [Nat.add_mul] at this; omega
     have e1 : (a.eval x).cells.zipIdx.foldl (fun cs (c, j) => cs.setIfInBounds (i * sz + j) c) vs = ((a.eval x).cells.toList.zipIdx 0).foldl (fun cs (c, j) => cs.setIfInBounds (i * sz + j) c) vs := by
      rw [<- Array.foldl_toList, Array.toList_zipIdx]
     have hg := fun k => Zb4 (i * sz) (a.eval x).cells.toList 0 vs (by simp only [Array.length_toList, hsz]; omega) k;obtain ⟨vs', g1, g2, g3, g4, g5⟩ := Zc6 h parts (i + 1) l _ hl (show ((a.eval x).cells.zipIdx.foldl (fun cs (c, j) => cs.setIfInBounds (i * sz + j) c) vs).size = n * sz by rw [e1, Z98]; exact hs) hjn;refine ⟨vs', ?_, g2, by simp; omega, fun k hk => ?_, fun k e hk => ?_⟩
     ·unfold Instr.fill;simp only [hsz, ne_eq, not_true_eq_false, decide_false, Bool.false_or];rw [if_neg]
      ·exact g1
      ·simp [hs]; omega
     ·rw [g4 k (by rw [Nat.add_mul]; omega), e1, hg, if_neg (by omega)]
     ·match k, hk with
      | 0, hk =>
       simp at hk; subst hk;refine ⟨by rw [Z9b hlc, hb2], fun r dd hr => ?_⟩;rw [Z9b hlc] at hr;have hrl := (List.getElem?_eq_some_iff.1 hr).1;have hlt : r < (a.eval x).cells.size := by omega
       refine ⟨(a.eval x).cells[r], ?_, hc.one _ _ (Array.getElem?_eq_getElem hlt), hc.rel _ _ _ hr (Array.getElem?_eq_getElem hlt)⟩;rw [Nat.add_zero, g4 _ (by rw [Nat.add_mul]; omega), e1, hg, if_pos ⟨by omega, by simp only [Array.length_toList, hsz]; omega⟩];have : i * sz + r - (i * sz + 0) = r := by omega
       rw [this, Array.getElem?_toList, Array.getElem?_eq_getElem hlt]
      | k + 1, hk =>
       have := g5 k e (by simpa using hk)
       rwa [show i + 1 + k = i + (k + 1) by omega] at this
    ·cases he
   ·cases he
theorem Zc7 (hT : TOK P T) {t : TypeId} {e : TE} (he : Z1d T t = some e) : ∃ i z, P.info? t = some i /\ i.zero = some z /\ e.size = i.size /\ e.bytes = i.bytes /\ e.zero = ofV z /\ z.cells.size = i.size /\ ∀ v ∈ z.cells, v.oneCell' = true := by
 obtain ⟨i, d, z, h1, h2, h3, h4, h5, h6, h7, h8, h9, -⟩ := hT.at he;exact ⟨i, z, h1, h3, h4, h5, h7, h8, h9⟩
theorem Zpf {sz n : Nat} {z : Value} {d : D} {c : Array Value} (hd : VR F μ d z) (hb : Z7e d = true) (hsz : z.cells.size = sz) (hc : ∀ i, i < n * sz -> c[i]? = z.cells[i % sz]?) : Z1l F μ sz (List.replicate n d) c := by
 obtain ⟨h1, h2⟩ := Zgp hd hb;intro i e he;obtain ⟨hlt, rfl⟩ := List.getElem?_eq_some_iff.1 he;simp only [List.length_replicate] at hlt;simp only [List.getElem_replicate];refine ⟨by rw [h2, hsz], fun r x hx => ?_⟩;obtain ⟨v, g1, g2, g3⟩ := (h1 0 d rfl).2 r x hx;have hr : r < sz := by have := (List.getElem?_eq_some_iff.1 hx).1; omega
 have : (i + 1) * sz <= n * sz := Nat.mul_le_mul_right _ hlt;rw [Nat.add_mul] at this;refine ⟨v, ?_, g2, g3⟩;have e1 : (i * sz + r) % sz = r := by rw [Nat.add_comm, Nat.add_mul_mod_self_right, Nat.mod_eq_of_lt hr]
 rw [hc _ (by omega), e1];simpa using g1
end
end Go.Abs

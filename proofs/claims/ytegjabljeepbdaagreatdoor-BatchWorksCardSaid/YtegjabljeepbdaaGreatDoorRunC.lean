/- Part RunC of the proofs about the benches of the accordion maker: see the last text of the claim for what is proved. -/
import Derived.Laws.Append
import Derived.Laws.MakeOwn
import Derived.Test.YtegjabljeepbdaaGreatDoorRunB
set_option linter.unusedVariables false
set_option linter.unusedSimpArgs false
set_option linter.unnecessarySimpa false
set_option linter.constructorNameAsVariable false

namespace Go.Abs
open Go
def Z7e : D -> Bool
 | .any | .tup _ => false
 | _ => true
def stD (A : Ar) (n off : Nat) (x : D) (K : D -> Prop) : D -> Prop
 | .agg cs =>
  match Z35 x with
  | some xs => (match Nat.beq xs.length n, Nat.ble (off + n) cs.length with | true, true => K (.agg (Z7l cs off xs)) | _, _ => False)
  | none =>
   match x, off with
   | .arr ys, 0 => (match Nat.beq n cs.length with | true => A.lenIs ys n /\ K (.arr ys) | false => False)
   | _, _ => False
 | .arr cs =>
  match x, off with
  | .agg xs, 0 => (match Nat.beq xs.length n with | true => A.lenIs cs n /\ K (.agg xs) | false => False)
  | .arr ys, 0 => A.lenIs cs n /\ A.lenIs ys n /\ K (.arr ys)
  | x, off => (match Zjq x, n with | true, 1 => A.ltN off cs /\ K (.arr (A.set cs off x)) | _, _ => False)
 | .any => False
 | .tup _ => False
 | _ => (match off, n, Zjq x with | 0, 1, true => K x | _, _, _ => False)
def stS (A : Ar) (n off : Nat) (x : D) (K : D -> Prop) : D -> Prop
 | .agg cs => (match Zjq x, n with | true, 1 => A.ltN off cs /\ K (.arr (A.set cs off x)) | _, _ => False)
 | .arr cs => (match Zjq x, n with | true, 1 => A.ltN off cs /\ K (.arr (A.set cs off x)) | _, _ => False)
 | _ => False
def stP (A : Ar) (H : List Blk) (n : Nat) (x : D) (K : List Blk -> Prop) : D -> Prop
 | .b k off => (match Z1m H k with | some (.box d) => stD A n off x (fun d' => K (H.set k (.box d'))) d | _ => False)
 | .bs k off => (match Z1m H k with | some (.box d) => stS A n off x (fun d' => K (H.set k (.box d'))) d | _ => False)
 | .p k sz i off => (match Z1m H k with | some (.els sz' es) => (match Nat.beq sz sz', frD x with | true, true => Need (A.get es i) (stD A n off x fun e' => K (H.set k (.els sz (A.set es i e')))) | true, false => Need (A.get es i) (stD A n off x fun e' => K (H.set k (.elo sz (A.set es i e')))) | _, _ => False) | some (.elo sz' es) => (match Nat.beq sz sz' with | true => Need (A.get es i) (stD A n off x fun e' => K (H.set k (.elo sz (A.set es i e')))) | false => False) | _ => False)
 | _ => False
section
variable {P : Program} {T : TT} {F : Fz} {μ : Mu} {w : World}
structure Written (F : Fz) (μ : Mu) (d d' : D) (off : Nat) (v : Value) (n : Nat) : Prop where
 size : v.cells.size = n
 len : d'.cells.length = d.cells.length
 fit : off + n <= d.cells.length
 one : ∀ (i : Nat) (u : Value), v.cells[i]? = some u -> u.oneCell' = true
 rel : ∀ (r : Nat) (c : D), d'.cells[r]? = some c -> if off <= r /\ r < off + n then ∀ u, v.cells[r - off]? = some u -> VR F μ c u else d.cells[r]? = some c
theorem Zbf {x : D} (h : Zjq x = true) : Z35 x = some [x] /\ x.cells = [x] := by
 cases x <;> simp [Zjq] at h <;> exact ⟨rfl, rfl⟩
theorem CellsA.of_one {x : D} {v : Value} (h : Zjq x = true) (hv : VR F μ x v) : v.cells.size = 1 /\ (∀ (i : Nat) (u : Value), v.cells[i]? = some u -> u.oneCell' = true) /\ ∀ u, v.cells[0]? = some u -> VR F μ x u := by
 have hc := Z4g hv (Zbf h).1 (fun y e => by subst e; exact hv.v_one);exact ⟨hc.len.symm, hc.one, fun u hu => hc.rel 0 x u rfl hu⟩
theorem Zdu {d x : D} {v : Value} {cs : List D} {off : Nat} (hd : d.cells = cs) (h1 : Zjq x = true) (hv : VR F μ x v) (hlt : off < cs.length) : Written F μ d (.arr (cs.set off x)) off v 1 := by
 obtain ⟨e1, e2, e3⟩ := CellsA.of_one h1 hv;refine ⟨e1, by rw [hd]; exact List.length_set, by rw [hd]; omega, e2, fun r c hr => ?_⟩
 replace hr : (cs.set off x)[r]? = some c := hr
 rw [List.getElem?_set] at hr
 split at hr
 ·rename_i h; subst h
  cases hr
  rw [if_pos ⟨Nat.le_refl _, by omega⟩];intro u hu; rw [Nat.sub_self] at hu; exact e3 u hu
 ·rw [if_neg (by omega), hd]; exact hr
theorem Zmb {cs xs : List D} {off : Nat} (h1 : frL cs = true) (h2 : frL xs = true) : frL (Z7l cs off xs) = true := by
 rw [Z30] at *;intro d hd;simp only [Z7l, List.mem_append] at hd;rcases hd with (hd | hd) | hd
 ·exact h1 d (List.mem_of_mem_take hd)
 ·exact h2 d hd
 ·exact h1 d (List.mem_of_mem_drop hd)
theorem Zu8 {x : D} {xs : List D} (h : Z35 x = some xs) (hf : frD x = true) : frL xs = true := by
 cases x <;> simp [Z35] at h <;> subst h <;> first | (simpa only [frD] using hf) | (simp only [frL, Bool.and_true]; exact hf)
theorem Zu9 {cs : List D} {off : Nat} {x : D} (h : frL cs = true) (hx : frD x = true) : frL (cs.set off x) = true := Z30.2 (FrL.set ⟨Z30.1 h⟩ hx).out
theorem Za9 {n off : Nat} {d x : D} {v : Value} (hv : VR F μ x v) {K : D -> Prop} (h : stD ar n off x K d) : ∃ d', Written F μ d d' off v n /\ K d' /\ (frD d = true -> frD x = true -> frD d' = true) := by
 cases d
 case agg cs =>
  simp only [stD] at h
  split at h
  ·rename_i xs hxs
   split at h
   ·rename_i b1 b2
    have b1 := Nat.eq_of_beq_eq_true b1;have b2 := Nat.le_of_ble_eq_true b2;have hc := Z4g hv hxs (fun y e => by subst e; exact hv.v_one);refine ⟨.agg (Z7l cs off xs), ⟨by rw [<- hc.len, b1], Zb3 (by omega), b2, hc.one, fun r c hr => ?_⟩, h, fun g1 g2 => by simp only [frD] at g1 ⊢; exact Zmb g1 (Zu8 hxs g2)⟩;simp only [D.cells] at hr ⊢;rw [Zex (by omega), b1] at hr
    split at hr
    ·rename_i hh; rw [if_pos hh]; exact fun u hu => hc.rel _ _ _ hr hu
    ·rename_i hh; rw [if_neg hh]; exact hr
   ·exact h.elim
  ·split at h
   ·rename_i ys hlit
    split at h
    ·rename_i b1
     have b1 := Nat.eq_of_beq_eq_true b1;obtain ⟨hl, hk⟩ := h;have hl : ys.length = n := hl;obtain ⟨vs, rfl, hlen, hr, ho⟩ := hv.arr_inv;exact ⟨.arr ys, ⟨by simp only [Value.cells]; omega, by simp only [D.cells]; omega, by simp only [D.cells]; omega, ho, fun r c hrc => by
      simp only [D.cells] at hrc
      have := (List.getElem?_eq_some_iff.1 hrc).1
      rw [if_pos ⟨by omega, by omega⟩]; exact fun u hu => hr r c u hrc hu⟩, hk, fun _ g2 => g2⟩
    ·exact h.elim
   ·exact h.elim
 case arr cs =>
  simp only [stD] at h
  split at h
  ·rename_i xs
   split at h
   ·rename_i b1
    have b1 := Nat.eq_of_beq_eq_true b1;obtain ⟨hl, hk⟩ := h;have hl : cs.length = n := hl;obtain ⟨vs, rfl, hlen, hr, ho⟩ := hv.agg_inv;exact ⟨.agg xs, ⟨by simp only [Value.cells]; omega, by simp only [D.cells]; omega, by simp only [D.cells]; omega, ho, fun r c hrc => by
     simp only [D.cells] at hrc
     have := (List.getElem?_eq_some_iff.1 hrc).1
     rw [if_pos ⟨by omega, by omega⟩]; exact fun u hu => hr r c u hrc hu⟩, hk, fun _ g2 => g2⟩
   ·exact h.elim
  ·rename_i ys
   obtain ⟨hl, hl2, hk⟩ := h;have hl : cs.length = n := hl;have hl2 : ys.length = n := hl2;obtain ⟨vs, rfl, hlen, hr, ho⟩ := hv.arr_inv;exact ⟨.arr ys, ⟨by simp only [Value.cells]; omega, by simp only [D.cells]; omega, by simp only [D.cells]; omega, ho, fun r c hrc => by
    simp only [D.cells] at hrc
    have := (List.getElem?_eq_some_iff.1 hrc).1
    rw [if_pos ⟨by omega, by omega⟩]; exact fun u hu => hr r c u hrc hu⟩, hk, fun _ g2 => g2⟩
  ·split at h
   ·rename_i h1
    obtain ⟨hlt, hk⟩ := h;exact ⟨_, Zdu rfl h1 hv hlt, hk, fun g1 g2 => by simp only [frD] at g1 ⊢; exact Zu9 g1 g2⟩
   ·exact h.elim
 case any => exact h.elim
 case tup => exact h.elim
 all_goals
  simp only [stD] at h
  split at h
  ·rename_i h1
   obtain ⟨e1, e2, e3⟩ := CellsA.of_one h1 hv;refine ⟨x, ⟨e1, by rw [(Zbf h1).2]; rfl, by simp [D.cells], e2, fun r c hr => ?_⟩, h, fun _ g2 => g2⟩;rw [(Zbf h1).2] at hr
   match r, hr with
   | 0, hr => simp at hr; subst hr; rw [if_pos ⟨Nat.le_refl _, by omega⟩]; exact fun u hu => e3 u hu
   | r + 1, hr => simp at hr
  ·exact h.elim
theorem Zpa {n off : Nat} {d x : D} {v : Value} (hv : VR F μ x v) {K : D -> Prop} (h : stS ar n off x K d) : ∃ d', Written F μ d d' off v n /\ K d' := by
 cases d <;> try exact h.elim
 all_goals
  simp only [stS] at h
  split at h
  ·rename_i h1
   obtain ⟨hlt, hk⟩ := h;exact ⟨_, Zdu rfl h1 hv hlt, hk⟩
  ·exact h.elim
theorem Zc4 (hT : TOK P T) {t : TypeId} {e : TE} (he : Z1d T t = some e) {b o : Nat} {c : Array Value} {ty : TypeId} {v : Value} (hw : w.heap[b]? = some (.cells c ty (0, 0))) (hs : v.cells.size = e.size)
  (ho : ∀ (i : Nat) (u : Value), v.cells[i]? = some u -> u.oneCell' = true) (hfit : o + e.size <= c.size) :
  ∃ w' c', (storeVar t ⟨b, o, none⟩ v).run P w = .ok () w' /\ w'.heap = w.heap.setIfInBounds b (.cells c' ty (0, 0)) /\ w'.tape = w.tape /\ w'.os = w.os /\ w'.output = w.output /\ c'.size = c.size /\
   ∀ i, c'[i]? = if o <= i /\ i < o + e.size then v.cells[i - o]? else c[i]? := by
 have hst := run_storeCells_at P b o ty v.cells.toList 0 c w hw (by simp [hs]; omega) (fun u hu => by
  obtain ⟨i, hi⟩ := List.mem_iff_getElem?.1 hu
  exact ho i u (by simpa using hi))
 simp only [Nat.add_zero, Array.length_toList, hs] at hst;refine ⟨w.setRow b (c.toList.take o ++ v.cells.toList ++ c.toList.drop (o + e.size)).toArray, (c.toList.take o ++ v.cells.toList ++ c.toList.drop (o + e.size)).toArray, ?_, ?_, rfl, rfl, rfl, ?_, fun i => ?_⟩
 ·unfold storeVar;simp only [Sem.run_bind, Z6i hT he, Result.andThen_ok, hs, ne_eq, not_true_eq_false, if_false];exact hst
 ·apply Array.ext_getElem?
  intro j;simp only [World.setRow, Array.getElem?_modify, Array.getElem?_setIfInBounds];have hlt := (Array.getElem?_eq_some_iff.1 hw).1
  by_cases hj : b = j
  ·subst hj;have hget : w.heap[b] = .cells c ty (0, 0) := (Array.getElem?_eq_some_iff.1 hw).2;simp [hlt, hget]
  ·simp [hj]
 ·simp [hs]; omega
 ·have hl : (c.toList.take o).length = o := by simp; omega
  simp only [List.getElem?_toArray]
  by_cases h1 : i < o
  ·rw [List.append_assoc, List.getElem?_append_left (by omega), List.getElem?_take, if_pos h1, if_neg (by omega)]; simp
  ·rw [List.append_assoc, List.getElem?_append_right (by omega), hl]
   by_cases h2 : i < o + e.size
   ·rw [List.getElem?_append_left (by simp [hs]; omega), if_pos ⟨by omega, h2⟩]; simp
   ·rw [List.getElem?_append_right (by simp [hs]; omega), List.getElem?_drop, if_neg (by omega)];simp only [Array.length_toList, hs, Array.getElem?_toList]
    congr 1; omega
theorem Zf0 {sz i off n : Nat} {es : List D} {c c' : Array Value} {d d' : D} {v : Value} (hc : Z1l F μ sz es c) (hi : es[i]? = some d) (hw : Written F μ d d' off v n)
  (hc' : ∀ j, c'[j]? = if i * sz + off <= j /\ j < i * sz + off + n then v.cells[j - (i * sz + off)]? else c[j]?) : Z1l F μ sz (es.set i d') c' := by
 have hdsz : d.cells.length = sz := (hc i d hi).1;intro j e hj;rw [List.getElem?_set] at hj;have hilt := (List.getElem?_eq_some_iff.1 hi).1
 split at hj
 ·rename_i hij; subst hij
  cases hj
  refine ⟨by rw [hw.len, hdsz], fun r x hx => ?_⟩;have hrlt : r < sz := by have := (List.getElem?_eq_some_iff.1 hx).1; rw [hw.len, hdsz] at this; exact this
  have hrel := hw.rel r x hx;rw [hc']
  by_cases hr : off <= r /\ r < off + n
  ·rw [if_pos hr] at hrel;rw [if_pos ⟨by omega, by omega⟩];have hlt : i * sz + r - (i * sz + off) < v.cells.size := by rw [hw.size]; omega
   have e1 : i * sz + r - (i * sz + off) = r - off := by omega
   refine ⟨_, Array.getElem?_eq_getElem hlt, hw.one _ _ (Array.getElem?_eq_getElem hlt), hrel _ ?_⟩;rw [<- Array.getElem?_eq_getElem hlt, e1]
  ·rw [if_neg hr] at hrel;rw [if_neg (by omega)];exact (hc i d hi).2 r x hrel
 ·rename_i hij
  refine ⟨(hc j e hj).1, fun r x hx => ?_⟩;have hrlt : r < sz := by have := (List.getElem?_eq_some_iff.1 hx).1; rw [(hc j e hj).1] at this; exact this
  rw [hc', if_neg]
  ·exact (hc j e hj).2 r x hx
  ·have hfit := hw.fit;rw [hdsz] at hfit;intro ⟨g1, g2⟩;rcases Nat.lt_or_gt_of_ne hij with h | h
   ·have : (i + 1) * sz <= j * sz := Nat.mul_le_mul_right _ h;rw [Nat.add_mul] at this; omega
   ·have : (j + 1) * sz <= i * sz := Nat.mul_le_mul_right _ h;rw [Nat.add_mul] at this; omega
theorem Zpb (hT : TOK P T) {t : TypeId} {e : TE} (he : Z1d T t = some e) {H : List Blk} (hr : HR F μ H w) {p x : D} {vp vx : Value} (hp : VR F μ p vp) (hx : VR F μ x vx) {K : List Blk -> Prop} (h : stP ar H e.size x K p) :
  ∃ H' w', (Instr.storeAt t vp vx).run P w = .ok () w' /\ HR F μ H' w' /\ Post F μ H w F μ H' w' /\ H'.length = H.length /\ (∀ k y, Z13 H k = some y -> Z13 H' k = some y) /\ K H' := by
 have fin : ∀ {k sz b m i off : Nat} {es : List D} {d d' : D} {y : Blk}, Z17 H k = some (sz, es) -> μ k = some (some (b, m)) -> es[i]? = some d -> Written F μ d d' off vx e.size -> BFr y -> y.es = some (sz, es.set i d') -> K (H.set k y) -> vp = .pointer (some ⟨b, i * sz + off, none⟩) ->
   ∃ H' w', (Instr.storeAt t vp vx).run P w = .ok () w' /\ HR F μ H' w' /\ Post F μ H w F μ H' w' /\ H'.length = H.length /\ (∀ k y, Z13 H k = some y -> Z13 H' k = some y) /\ K H' := fun {k sz b m i off es d d' y} hb hμ hi hwr hbf hy hk hvp => by
  rcases hr.row k sz es hb (by rw [hμ]; simp) with ⟨e1, -⟩ | ⟨b', m', c, ty, e1, hw, hcs, hsz, hc⟩
  ·rw [hμ] at e1; cases e1
  ·rw [hμ] at e1; cases e1;have hdsz : d.cells.length = sz := (hc i d hi).1;have hilt := (List.getElem?_eq_some_iff.1 hi).1;have hfit : i * sz + off + e.size <= c.size := by
    have h1 := hwr.fit;have h2 : (i + 1) * sz <= es.length * sz := Nat.mul_le_mul_right _ hilt;rw [Nat.add_mul] at h2; omega
   obtain ⟨w', c', g1, g2, g3, g4, g5, g6, g7⟩ := Zc4 hT he (P := P) (o := i * sz + off) hw hwr.size hwr.one hfit;obtain ⟨r1, r2⟩ := Zqx hr hb hμ hw g2 g3 g4 g5 (by rw [g6, hcs]) hbf hy (by simpa using hsz) (Zf0 hc hi hwr g7);exact ⟨_, w', by rw [hvp]; simp only [Instr.storeAt, Instr.sureAddr, Sem.run_bind, Sem.run_pure, Result.andThen_ok, g1], r1, r2, by simp, fun j z hz => by
    have hne : k ≠ j := by rintro rfl; rw [Z6w hz] at hb; cases hb
    unfold Z13 at hz ⊢; rw [List.getElem?_set, if_neg hne]; exact hz, hk⟩
 cases p <;> try exact h.elim
 case b k off =>
  simp only [stP] at h
  split at h
  ·rename_i d hd
   obtain ⟨d', hwr, hk, -⟩ := Za9 hx h
   cases hp with
   | cl _ _ hc => cases hc
   | b _ _ b m hμ =>
    refine fin (Z7c hd) hμ (i := 0) rfl hwr (fun _ _ e => by cases e) ?_ hk (by simp);simp [Blk.es, hwr.len]
  ·exact h.elim
 case bs k off =>
  simp only [stP] at h
  split at h
  ·rename_i d hd
   obtain ⟨d', hwr, hk⟩ := Zpa hx h
   cases hp with
   | cl _ _ hc => cases hc
   | bs _ _ b m hμ =>
    refine fin (Z7c hd) hμ (i := 0) rfl hwr (fun _ _ e => by cases e) ?_ hk (by simp);simp [Blk.es, hwr.len]
  ·exact h.elim
 case p k sz i off =>
  simp only [stP] at h
  split at h
  ·rename_i sz' es hd
   split at h
   ·rename_i hsz hfx
    obtain rfl := Nat.eq_of_beq_eq_true hsz;obtain ⟨e1, he1, hk⟩ := h.out;obtain ⟨d', hwr, hk, hfr⟩ := Za9 hx hk;have hfe : FrL es := hr.fr k _ (by rw [<- Z1u]; exact hd) _ _ rfl
    cases hp with
    | cl _ _ hc => cases hc
    | p _ _ _ _ b m hμ => exact fin (Z5f hd) hμ he1 hwr (fun _ _ e => by cases e; exact hfe.set (hfr (hfe.out e1 (List.mem_of_getElem? he1)) hfx)) rfl hk rfl
   ·rename_i hsz hfx
    obtain rfl := Nat.eq_of_beq_eq_true hsz;obtain ⟨e1, he1, hk⟩ := h.out;obtain ⟨d', hwr, hk, -⟩ := Za9 hx hk
    cases hp with
    | cl _ _ hc => cases hc
    | p _ _ _ _ b m hμ => exact fin (Z5f hd) hμ he1 hwr (fun _ _ e => by cases e) rfl hk rfl
   ·exact h.elim
  ·rename_i sz' es hd
   split at h
   ·rename_i hsz
    obtain rfl := Nat.eq_of_beq_eq_true hsz;obtain ⟨e1, he1, hk⟩ := h.out;obtain ⟨d', hwr, hk, -⟩ := Za9 hx hk
    cases hp with
    | cl _ _ hc => cases hc
    | p _ _ _ _ b m hμ => exact fin (Z8e hd) hμ he1 hwr (fun _ _ e => by cases e) rfl hk rfl
   ·exact h.elim
  ·exact h.elim
end
end Go.Abs

namespace Go.Abs
open Go
def Zua (A : Ar) (H : List Blk) (sz : Nat) (K : List D -> Nat -> Prop) : D -> Prop
 | .sl sz' es => (match Nat.beq sz sz' with | true => K es (A.len es) | false => False)
 | .o k sz' n => (match Z1m H k, Nat.beq sz sz' with | some (.els sz2 es), true => (match Nat.beq sz sz2 with | true => A.eqN n (A.len es) /\ K es n | false => False) | _, _ => False)
 | .v (.slice none 0 0) => K [] 0
 | .z0 => K [] 0
 | _ => False
def Zub (A : Ar) (T : TT) (H : List Blk) (t t2 : TypeId) (K : Option D -> List Blk -> Prop) (d2 : D) : Prop :=
 match Z1d T t, Nat.beq t t2 with
 | some e, true =>
  match e.el with
  | some (none, el) =>
   match Z1d T el with
   | some e2 =>
    match e2.size with
    | 0 => False
    | sz + 1 => Zua A H (sz + 1) (fun ys m => A.room m e2.bytes /\ K (some (.o H.length (sz + 1) m)) (H ++ [.els (sz + 1) ys])) d2
   | none => False
  | _ => False
 | _, _ => False
def Zwh (A : Ar) (T : TT) (H : List Blk) (t t2 : TypeId) (K : Option D -> List Blk -> Prop) (d2 : D) : D -> Prop
 | .o k sz n =>
  match Z1d T t, Nat.beq t t2 with
  | some e, true =>
   match e.el with
   | some (none, el) =>
    match Z1d T el, Z1m H k with
    | some e2, some (.els sz' es) =>
     match Nat.beq sz sz', Nat.beq sz e2.size, sz with
     | true, true, _ + 1 => A.eqN n (A.len es) /\ Zua A H sz (fun ys m => A.room (A.addN n m) e2.bytes /\ K (some (.o H.length sz (A.addN n m))) (H.set k .dead ++ [.els sz (A.app es ys)])) d2
     | _, _, _ => False
    | _, _ => False
   | _ => False
  | _, _ => False
 | .v (.slice none 0 0) => Zub A T H t t2 K d2
 | .z0 => Zub A T H t t2 K d2
 | _ => False
section
variable {P : Program} {T : TT} {F : Fz} {μ : Mu} {w : World}
theorem Zgn {sz : Nat} (hsz : 0 < sz) {ys : List D} {b o : Nat}
  (h : ∀ (i : Nat) (e : D), ys[i]? = some e -> e.cells.length = sz /\ ∀ (r : Nat) (c : D), e.cells[r]? = some c -> ∃ v, w.cell? ⟨b, o + i * sz + r, none⟩ = some v /\ v.oneCell' = true /\ VR F μ c v) :
  ∃ news : List Value, news.length = ys.length * sz /\ (∀ j u, news[j]? = some u -> w.cell? ((⟨b, o, none⟩ : Addr).add j) = some u) /\ (∀ u ∈ news, u.oneCell' = true) /\ Z1l F μ sz ys news.toArray := by
 let f : Nat -> Value := fun j => (w.cell? ⟨b, o + j, none⟩).getD undef
 have hf : ∀ i (e : D) r (c : D), ys[i]? = some e -> e.cells[r]? = some c -> w.cell? ⟨b, o + (i * sz + r), none⟩ = some (f (i * sz + r)) /\ (f (i * sz + r)).oneCell' = true /\ VR F μ c (f (i * sz + r)) := fun i e r c he hc => by
  obtain ⟨v, h1, h2, h3⟩ := (h i e he).2 r c hc;rw [Nat.add_assoc] at h1;have : f (i * sz + r) = v := by simp only [f, h1]; rfl
  rw [this]; exact ⟨h1, h2, h3⟩
 have hg : ∀ j, j < ys.length * sz -> w.cell? ⟨b, o + j, none⟩ = some (f j) /\ (f j).oneCell' = true := fun j hj => by
  have h1 : j / sz < ys.length := Nat.div_lt_of_lt_mul (by rwa [Nat.mul_comm]);have h2 : j % sz < sz := Nat.mod_lt _ hsz;have e1 := List.getElem?_eq_getElem h1;have hl := (h _ _ e1).1;have e2 := List.getElem?_eq_getElem (l := ys[j / sz].cells) (show j % sz < ys[j / sz].cells.length by omega);have := hf _ _ _ _ e1 e2;have e3 : j / sz * sz + j % sz = j := Nat.div_add_mod' j sz;rw [e3] at this;exact ⟨this.1, this.2.1⟩
 refine ⟨(List.range (ys.length * sz)).map f, by simp, fun j u hj => ?_, fun u hu => ?_, fun i e he => ⟨(h i e he).1, fun r c hc => ?_⟩⟩
 ·simp only [List.getElem?_map, Option.map_eq_some_iff] at hj;obtain ⟨x, hx, rfl⟩ := hj;obtain ⟨hlt, rfl⟩ := List.getElem?_eq_some_iff.1 hx;simp only [List.length_range] at hlt;rw [add_lit]; simp only [List.getElem_range]; exact (hg j hlt).1
 ·simp only [List.mem_map, List.mem_range] at hu;obtain ⟨j, hj, rfl⟩ := hu;exact (hg j hj).2
 ·obtain ⟨h1, h2, h3⟩ := hf i e r c he hc;refine ⟨_, ?_, h2, h3⟩;have hi := (List.getElem?_eq_some_iff.1 he).1;have hr := (List.getElem?_eq_some_iff.1 hc).1;rw [(h i e he).1] at hr;have : (i + 1) * sz <= ys.length * sz := Nat.mul_le_mul_right _ hi;rw [Nat.add_mul] at this;have hlt : i * sz + r < ys.length * sz := by omega
  simp [hlt]
theorem Zwc {d : D} {v : Value} (h : CR F d v) : frD d = true := by
 induction h with
 | agg cs vs hl _ ho ih => exact Z30.2 fun c hc => let ⟨i, hi⟩ := List.mem_iff_getElem?.1 hc; ih i c _ hi (Array.getElem?_eq_getElem (by have := (List.getElem?_eq_some_iff.1 hi).1; omega))
 | arr cs vs hl _ ho ih => exact Z30.2 fun c hc => let ⟨i, hi⟩ := List.mem_iff_getElem?.1 hc; ih i c _ hi (Array.getElem?_eq_getElem (by have := (List.getElem?_eq_some_iff.1 hi).1; omega))
 | tup cs vs hl _ ih => exact Z30.2 fun c hc => let ⟨i, hi⟩ := List.mem_iff_getElem?.1 hc; ih i c _ hi (Array.getElem?_eq_getElem (by have := (List.getElem?_eq_some_iff.1 hi).1; omega))
 | fn f cs vs hl _ ih => exact Z30.2 fun c hc => let ⟨i, hi⟩ := List.mem_iff_getElem?.1 hc; ih i c _ hi (Array.getElem?_eq_getElem (by have := (List.getElem?_eq_some_iff.1 hi).1; omega))
 | ifc t d v _ ih => exact ih
 | _ => rfl
theorem Zgo {d : D} {v : Value} (h : VR F μ d v) : frD d = true -> CR F d v := by
 induction h with
 | cl d v h => exact fun _ => h
 | agg cs vs hl _ ho ih =>
  intro hf;simp only [frD] at hf;exact .agg cs vs hl (fun i c v hc hv => ih i c v hc hv (Z30.1 hf c (List.mem_of_getElem? hc))) ho
 | arr cs vs hl _ ho ih =>
  intro hf;simp only [frD] at hf;exact .arr cs vs hl (fun i c v hc hv => ih i c v hc hv (Z30.1 hf c (List.mem_of_getElem? hc))) ho
 | tup cs vs hl _ ih =>
  intro hf;simp only [frD] at hf;exact .tup cs vs hl (fun i c v hc hv => ih i c v hc hv (Z30.1 hf c (List.mem_of_getElem? hc)))
 | fn f cs vs hl _ ih =>
  intro hf;simp only [frD] at hf;exact .fn f cs vs hl (fun i c v hc hv => ih i c v hc hv (Z30.1 hf c (List.mem_of_getElem? hc)))
 | ifc t d v _ ih => intro hf; simp only [frD] at hf; exact .ifc t d v (ih hf)
 | b k off b m h => intro hf; simp [frD] at hf
 | bs k off b m h => intro hf; simp [frD] at hf
 | p k sz i off b m h => intro hf; simp [frD] at hf
 | o k sz n b m cap h hc hm => intro hf; simp [frD] at hf
 | oNil k sz a h => intro hf; simp [frD] at hf
 | yv k b m h => intro hf; simp [frD] at hf
 | mv k b m h => intro hf; simp [frD] at hf
theorem Zjx {d : D} (h : ∀ (r : Nat) (c : D), d.cells[r]? = some c -> frD c = true) : frD d = true := by
 cases d <;> first
  | exact Z30.2 fun c hc => let ⟨i, hi⟩ := List.mem_iff_getElem?.1 hc; h i c hi
  | exact h 0 _ rfl
theorem Zxk {sz : Nat} {es : List D} {v : Value} (h : CR F (.sl sz es) v) : FrL es := by
 cases h with
 | slE _ _ _ => exact .nil
 | sl _ _ b o c val hc hz hf hv => exact ⟨fun e he => let ⟨i, hi⟩ := List.mem_iff_getElem?.1 he; Zjx fun r c hr => Zwc (hv i e r c hi hr)⟩
theorem Zf1 {H : List Blk} (hr : HR F μ H w) {sz : Nat} (hsz : 0 < sz) {d : D} {v : Value} (hv : VR F μ d v) {K : List D -> Nat -> Prop} (h : Zua ar H sz K d) :
  ∃ ys m x c, v = .slice x m c /\ ys.length = m /\ FrL ys /\ K ys m /\ (0 < m -> ∃ a, x = some a /\ ∃ news : List Value, news.length = m * sz /\ (∀ j u, news[j]? = some u -> w.cell? (a.add j) = some u) /\ (∀ u ∈ news, u.oneCell' = true) /\ Z1l F μ sz ys news.toArray) := by
 unfold Zua at h
 split at h
 ·rename_i sz' es
  split at h
  ·rename_i hb
   obtain rfl := Nat.eq_of_beq_eq_true hb
   cases hv with
   | cl _ _ hc =>
    cases hc with
    | slE _ x c => exact ⟨[], 0, x, c, rfl, rfl, .nil, h, fun h => absurd h (by omega)⟩
    | sl _ _ b o c val hc hz hf hvv =>
     refine ⟨es, es.length, _, c, rfl, rfl, Zxk (.sl _ es b o c val hc hz hf hvv), h, fun _ => ⟨_, rfl, ?_⟩⟩;exact Zgn hsz (fun i e he => ⟨hz i e he, fun r c hc => ⟨_, (hr.frz _ _ _ (hf i e r c he hc).1).1, (hf i e r c he hc).2, .cl _ _ (hvv i e r c he hc)⟩⟩)
  ·exact h.elim
 ·rename_i k sz' n
  split at h
  ·rename_i sz2 es hb h1
   obtain rfl := Nat.eq_of_beq_eq_true h1
   split at h
   ·rename_i h2
    obtain rfl := Nat.eq_of_beq_eq_true h2;obtain ⟨hn, hk⟩ := h;have hn : n = es.length := hn
    cases hv with
    | cl _ _ hc => cases hc
    | o _ _ _ b m cap hμ hc hm =>
     refine ⟨es, n, _, cap, rfl, hn.symm, hr.fr k _ (by rw [<- Z1u]; exact hb) _ _ rfl, hk, fun _ => ⟨_, rfl, ?_⟩⟩;rw [hn];refine Zgn hsz (fun i e he => ⟨?_, fun r c hc => by simpa using hr.cells (Z5f hb) hμ i e he r c hc⟩);rcases hr.row k _ _ (Z5f hb) (by rw [hμ]; simp) with ⟨e1, -⟩ | ⟨_, _, _, _, _, _, _, _, hcr⟩
     ·rw [hμ] at e1; cases e1
     ·exact (hcr i e he).1
    | oNil _ _ ad hμ =>
     exact ⟨es, 0, ad, 0, rfl, hn.symm, hr.fr k _ (by rw [<- Z1u]; exact hb) _ _ rfl, hk, fun h => absurd h (by omega)⟩
   ·exact h.elim
  ·exact h.elim
 ·obtain rfl := hv.v_inv;exact ⟨[], 0, none, 0, rfl, rfl, .nil, h, fun h => absurd h (by omega)⟩
 ·cases hv with | cl _ _ hc => cases hc with | z0 ad => exact ⟨[], 0, ad, 0, rfl, rfl, .nil, h, fun h => absurd h (by omega)⟩
 ·exact h.elim
theorem Z8g {sz : Nat} {es ys : List D} {c news c' : Array Value} (h1 : Z1l F μ sz es c) (h2 : Z1l F μ sz ys news) (hn : news.size = ys.length * sz)
  (hc : ∀ j, j < es.length * sz -> c'[j]? = c[j]?) (hc2 : ∀ j, j < news.size -> c'[es.length * sz + j]? = news[j]?) : Z1l F μ sz (es ++ ys) c' := by
 intro i e he
 by_cases hi : i < es.length
 ·rw [List.getElem?_append_left hi] at he;refine ⟨(h1 i e he).1, fun r d hd => ?_⟩;have hr := (List.getElem?_eq_some_iff.1 hd).1;rw [(h1 i e he).1] at hr;have : (i + 1) * sz <= es.length * sz := Nat.mul_le_mul_right _ hi;rw [Nat.add_mul] at this;rw [hc _ (by omega)]; exact (h1 i e he).2 r d hd
 ·rw [List.getElem?_append_right (by omega)] at he;refine ⟨(h2 _ e he).1, fun r d hd => ?_⟩;have hr := (List.getElem?_eq_some_iff.1 hd).1;rw [(h2 _ e he).1] at hr;have hlt := (List.getElem?_eq_some_iff.1 he).1;have : (i - es.length + 1) * sz <= ys.length * sz := Nat.mul_le_mul_right _ hlt;rw [Nat.add_mul] at this;have e1 : i * sz + r = es.length * sz + ((i - es.length) * sz + r) := by
   have : i = es.length + (i - es.length) := by omega
   rw [this, Nat.add_mul]; simp; omega
  rw [e1, hc2 _ (by omega)]; exact (h2 _ e he).2 r d hd
theorem Zpc {H : List Blk} (h : HR F μ H w) {k k' sz : Nat} {es : List D} {x y : Blk} {p : Option (Nat × Nat)} (hbf : BFr x) (hbf2 : BFr y) (hb : Z17 H k = some (sz, es)) (hμ : μ k = some p) (hx : x.es = some (sz, es)) (hy : y.live = false)
  (hn : μ k' = none) (hle0 : k' <= H.length) : HR F (Z4v μ k' p) (setB (H.set k y) k' x) w /\ Post F μ H w F (Z4v μ k' p) (setB (H.set k y) k' x) w /\ (∀ j z, μ j = some z -> Z4v μ k' p j = some z) := by
 have hne : k ≠ k' := by rintro rfl; rw [hμ] at hn; cases hn
 have hkl := Z7k hb;have hle : k' <= (H.set k y).length := by simpa using hle0
 have hget : ∀ j, (setB (H.set k y) k' x)[j]? = if j = k' then some x else if j = k then some y else H[j]? := fun j => by
  rw [Z2m x hle];have := Z2m (H := H) y (Nat.le_of_lt hkl) j;rw [setB, if_pos hkl] at this;rw [this]
 have hd : Z20 (setB (H.set k y) k' x) k = false := by rw [Z6x (by rw [hget, if_neg hne, if_pos rfl])]; exact hy
 have hself := Z6h μ k' p;have hnob : ∀ z : OB, Z13 (setB (H.set k y) k' x) k' = some z -> False := fun z hz => by
  rw [Zep x hle, if_pos rfl] at hz
  cases x <;> simp [Blk.es, Blk.obj] at hx hz
 refine Z5e (fun j => j = k ∨ j = k') h (by have := (Z7b (H := H.set k y) (k := k') x).1; simpa using this) (fun j hj => by rw [hget, if_neg (fun e => hj (.inr e)), if_neg (fun e => hj (.inl e))]) (fun j hj => Z2k _ (fun e => hj (.inr e))) (fun j b _ => Iff.rfl)
  (fun j hj z hz => by
   rcases hj with rfl | rfl
   ·rw [Z2k _ hne]; exact hz
   ·rw [hn] at hz; cases hz) (Nat.le_refl _) rfl rfl rfl (fun b _ _ => rfl) (fun k1 b hk1 hl hf => ?_) (fun k1 k2 b h1 h2 l1 l2 _ _ => ?_) (fun k1 hk1 hle1 => ?_) (fun hmono k1 sz1 es1 hk1 hb1 _ => ?_) (fun k1 z hk1 hb1 b => ?_) (fun _ k1 z hk1 hz _ => ?_) (fun k1 hk1 he => ?_) (fun k1 z hk1 hz => ?_)
 ·rcases hk1 with rfl | rfl
  ·rw [hd] at hl; cases hl
  ·refine .inl ⟨k, .inl rfl, Z15 hb, ?_⟩;rcases hf with ⟨m, hm⟩ | hf
   ·rw [hself] at hm; cases hm; exact .inl ⟨m, hμ⟩
   ·exact absurd hf (h.non _ hn b)
 ·rcases h1 with rfl | rfl
  ·rw [hd] at l1; cases l1
  ·rcases h2 with rfl | rfl
   ·rw [hd] at l2; cases l2
   ·rfl
 ·rcases hk1 with rfl | rfl
  ·have := (Z7b (H := H.set k1 y) (k := k') x).1; simp at this; omega
  ·have := Zi4 x hle; omega
 ·rcases hk1 with rfl | rfl
  ·have := Z15 hb1; rw [hd] at this; cases this
  ·rw [Zbz x hle, if_pos rfl, hx] at hb1; cases hb1;rcases h.row k sz es hb (by rw [hμ]; simp) with ⟨e1, e2⟩ | ⟨b, m, c, t, e1, e2, e3, e4, e5⟩
   ·rw [hμ] at e1; cases e1; exact .inl ⟨hself, e2⟩
   ·rw [hμ] at e1; cases e1;exact .inr ⟨b, m, c, t, hself, e2, e3, e4, e5.mono (fun _ _ _ e => e) hmono⟩
 ·rcases hk1 with rfl | rfl
  ·exact h.plain _ _ hb b
  ·exact h.non _ hn b
 ·rcases hk1 with rfl | rfl
  ·have := Z2j hz; rw [hd] at this; cases this
  ·exact (hnob z hz).elim
 ·rcases hk1 with rfl | rfl
  ·rw [Z2k _ hne] at he; rw [hμ] at he; cases he
  ·rw [hself] at he; cases he
 ·rcases hk1 with rfl | rfl
  ·rw [hget, if_neg hne, if_pos rfl] at hz; cases hz; exact hbf2
  ·rw [hget, if_pos rfl] at hz; cases hz; exact hbf
theorem Zc5 {H : List Blk} (h : HR F μ H w) {k sz : Nat} (hn : μ k = none) (hle : k <= H.length) :
  HR F (Z4v μ k none) (setB H k (.els sz [])) w /\ Post F μ H w F (Z4v μ k none) (setB H k (.els sz [])) w /\ (∀ j y, μ j = some y -> Z4v μ k none j = some y) := by
 have hat := Z6h μ k none;refine Z5e (fun j => j = k) h (Z7b _).1 (fun j hj => by rw [Z2m _ hle, if_neg hj]) (fun j hj => Z2k _ hj) (fun j b _ => Iff.rfl) (fun j hj y hy => by subst hj; rw [hn] at hy; cases hy) (Nat.le_refl _) rfl rfl rfl
  (fun b hb _ => rfl) (fun k' b hk' _ hf => ?_) (fun k1 k2 b h1 h2 _ _ _ _ => h1.trans h2.symm) (fun k' hk' hle' => ?_) (fun hmono k' sz' es' hk' hb _ => ?_) (fun k' y hk' _ b => by subst hk'; exact h.non k' hn b)
  (fun _ k' y hk' hy _ => ?_) (fun k' hk' he => by subst hk'; rw [hat] at he; cases he) (fun k' y hk' hy => ?_)
 ·subst hk';rcases hf with ⟨m, hm⟩ | hf
  ·rw [hat] at hm; cases hm
  ·exact absurd hf (h.non _ hn b)
 ·subst hk';have := Zi4 (Blk.els sz []) hle; omega
 ·subst hk';rw [Zbz _ hle, if_pos rfl] at hb;simp only [Blk.es, Option.some.injEq, Prod.mk.injEq] at hb;exact .inl ⟨hat, hb.2.symm⟩
 ·subst hk';rw [Zep _ hle, if_pos rfl] at hy; cases hy
 ·subst hk';rw [Z2m _ hle, if_pos rfl] at hy; cases hy;exact fun sz es e => by cases e; exact .nil
end
end Go.Abs

namespace Go.Abs
open Go
def Z8h (n sz : Nat) : List (Nat × Option D) -> Nat -> Option (List D)
 | [], j => if j = n then some [] else none
 | (i, some d) :: r, j =>
  match Nat.beq i j, Z35 d with
  | true, some xs => (match Nat.beq xs.length sz, Z8h n sz r (j + 1) with | true, some l => some (d :: l) | _, _ => none)
  | _, _ => none
 | (_, none) :: _, _ => none
def Zpd (T : TT) (t : TypeId) (n : Nat) (parts : List (Nat × Option D)) (K : Blk -> (Nat -> D) -> Prop) : Prop :=
 match Z1d T t with
 | some e =>
  match e.el with
  | some (none, el) =>
   match Z1d T el with
   | some e2 =>
    match Z8h n e2.size parts 0, Nat.ble (n * e2.size) 16777216, e2.size with
    | some es, true, _ + 1 => (match frL es with | true => K (.els e2.size es) fun k => .o k e2.size n | false => K (.elo e2.size es) fun k => .o k e2.size n)
    | _, _, _ => False
   | none => False
  | _ => False
 | none => False
def Zie : Operand -> Operand -> Bool
 | .tmp a, .tmp b => Nat.beq a b
 | .const (.int _ n), .const (.int _ m) => decide (n = m)
 | _, _ => false
def Zpe (A : Ar) (T : TT) (t : TypeId) (same : Bool) (n : Option D) (K : Blk -> (Nat -> D) -> Prop) : Prop :=
 match Z1d T t, same, n with
 | some e, true, some (.v (.int _ n)) =>
  match e.el with
  | some (none, el) =>
   match Z1d T el with
   | some e2 => A.nneg n /\ A.room (A.tn n) e2.bytes /\ (match Z35 e2.zero with | some _ => K (.els e2.size (A.rep (A.tn n) e2.zero)) (fun k => .o k e2.size (A.tn n)) | none => False)
   | none => False
  | _ => False
 | _, _, _ => False
def Z5g (A : Ar) (T : TT) (s : St) (K : Blk -> (Nat -> D) -> Prop) : Op -> Prop
 | .alloc t => (match Z1d T t with | some e => (match Z7e e.zero with | true => K (.box e.zero) (fun k => .b k 0) | false => False) | none => False)
 | .box _ x => (match evo s.env x with | some d => (match Z7e d with | true => K (.box d) (fun k => .b k 0) | false => False) | none => False)
 | .buildSlice t n parts => Zpd T t n (parts.toList.map fun (i, x) => (i, evo s.env x)) K
 | .makeSlice t n c => Zpe A T t (Zie n c) (evo s.env n) K
 | _ => False
def Znt (A : Ar) (T : TT) (H : List Blk) (t : TypeId) (K : Option D -> List Blk -> Prop) (key val : D) : D -> Prop
 | .mv k =>
  match Zc3 T t, Z1m H k, frD val with
  | some (kn, _), some (.ob (.mp kn' ents)), true => (match Nat.beq kn kn' with | true => KeyIs kn key fun l => K none (H.set k (.ob (.mp kn (A.mput ents l val)))) | false => False)
  | _, _, _ => False
 | _ => False
def wA (A : Ar) (T : TT) (s : St) (K : Option D -> List Blk -> Prop) : Op -> Prop
 | .store t p x => (match Z1d T t, evo s.env p, evo s.env x with | some e, some dp, some dx => stP A s.H e.size dx (fun H' => K none H') dp | _, _, _ => False)
 | .call { callee := .builtin .append, args, argTypes } =>
  match args.toList, argTypes.toList with
  | [x, y], [t, t2] => (match evo s.env x, evo s.env y with | some d1, some d2 => Zwh A T s.H t t2 K d2 d1 | _, _ => False)
  | _, _ => False
 | .makeMap t none => (match Zc3 T t with | some (kn, _) => K (some (.mv s.H.length)) (s.H ++ [.ob (.mp kn [])]) | none => False)
 | .insert t m k v => (match evo s.env m, evo s.env k, evo s.env v with | some dm, some dk, some dv => Znt A T s.H t K dk dv dm | _, _, _ => False)
 | .mapUpdate t m k v => (match evo s.env m, evo s.env k, evo s.env v with | some dm, some dk, some dv => Znt A T s.H t K dk dv dm | _, _, _ => False)
 | _ => False
section
variable {P : Program} {T : TT} {F : Fz} {μ : Mu} {w : World}
theorem Mks.app (μ : Mu) (H : List Blk) (x : Blk) (k : Nat) (p : Option (Nat × Nat)) : Mks μ H (Z4v μ k p) (H ++ [x]) := fun _ h => ⟨Z41 x h, fun _ h => h⟩
theorem Mks.set_app {μ : Mu} {H : List Blk} {k : Nat} {z : Nat × List D} (x y : Blk) (j : Nat) (p : Option (Nat × Nat)) (hb : Z17 H k = some z) : Mks μ H (Z4v μ j p) (H.set k x ++ [y]) := fun _ h => ⟨Z41 y (Z95 x hb h), fun _ h => h⟩
structure Left2 (F : Fz) (μ : Mu) (H : List Blk) (w : World) (μ' : Mu) (H' : List Blk) (w' : World) : Prop where
 hr : HR F μ' H' w'
 post : Post F μ H w F μ' H' w'
 mono : ∀ j y, μ j = some y -> μ' j = some y
 len : H.length <= H'.length
 same : ∀ j, j < H.length -> μ' j = μ j
 mks : Mks μ H μ' H'
structure Made (P : Program) (F : Fz) (μ : Mu) (w : World) (x : Blk) (mk : Nat -> D) (r : Result Value) : Prop where
 out : BFr x /\ ∃ sz es c t v, x.es = some (sz, es) /\ r = .ok v (w.alloc (.cells c t)) /\ Z1l F μ sz es c /\ es.length * sz <= c.size /\ ∀ (k : Nat) (μ' : Mu), μ' k = some (some (w.heap.size, c.size)) -> VR F μ' (mk k) v
theorem Z6y (H : List Blk) (x : Blk) : setB H H.length x = H ++ [x] := by unfold setB; rw [if_neg (Nat.lt_irrefl _)]
theorem Zgp {d : D} {v : Value} (hv : VR F μ d v) (hb : Z7e d = true) : Z1l F μ d.cells.length [d] v.cells /\ d.cells.length = v.cells.size := by
 have main : ∀ {cs : List D} {vs : Array Value}, d.cells = cs -> cs.length = vs.size -> (∀ (i : Nat) (c : D) (v : Value), cs[i]? = some c -> vs[i]? = some v -> VR F μ c v) -> (∀ (i : Nat) (v : Value), vs[i]? = some v -> v.oneCell' = true) -> Z1l F μ d.cells.length [d] vs /\ d.cells.length = vs.size :=
  fun {cs vs} hcs hl hr ho => ⟨fun i e he => by
   match i, he with
   | 0, he =>
    simp at he; subst he
    refine ⟨rfl, fun r c hc => ?_⟩
    rw [hcs] at hc
    have hlt : r < vs.size := by have := (List.getElem?_eq_some_iff.1 hc).1; omega
    exact ⟨vs[r], by simp [hlt], ho _ _ (Array.getElem?_eq_getElem hlt), hr _ _ _ hc (Array.getElem?_eq_getElem hlt)⟩
   | i + 1, he => simp at he, by rw [hcs, hl]⟩
 cases hlc : Z35 d with
 | some xs =>
  have hc := Z4g hv hlc (fun y e => by subst e; exact hv.v_one);have : d.cells = xs := by cases d <;> simp [Z35] at hlc <;> first | exact hlc | (subst hlc; rfl)
  exact main this hc.len hc.rel hc.one
 | none =>
  cases d <;> simp [Z35, Z7e] at hlc hb
  obtain ⟨vs, rfl, hl, hr, ho⟩ := hv.arr_inv;exact main rfl hl hr ho
theorem Z9b {d : D} {xs : List D} (h : Z35 d = some xs) : d.cells = xs := by
 cases d <;> simp [Z35] at h <;> first | exact h | (subst h; rfl)
theorem Zgq {n sz : Nat} : ∀ {ps : List (Nat × Option D)} {j : Nat} {l : List D}, Z8h n sz ps j = some l -> j <= n
 | [], j, l, h => by
  simp only [Z8h] at h
  split at h
  ·omega
  ·cases h
 | (q1, none) :: qs, j, l, h => by cases h
 | (q1, some d) :: qs, j, l, h => by
  simp only [Z8h] at h
  split at h
  ·split at h
   ·rename_i h2; have := Zgq h2; omega
   ·cases h
  ·cases h
theorem Zc6 {s : St} {a : Act} (h : ER F μ s a) {n sz : Nat} : ∀ (parts : List (Nat × Operand)) (j : Nat) (es : List D) (vs : Array Value), Z8h n sz (parts.map fun (i, x) => (i, evo s.env x)) j = some es -> vs.size = n * sz -> j <= n ->
  ∃ vs', Instr.fill (fun i => some (i * sz, sz)) vs (parts.map fun (i, x) => (i, a.eval x)) = some vs' /\ vs'.size = n * sz /\ j + es.length = n /\ (∀ i, i < j * sz -> vs'[i]? = vs[i]?) /\
   (∀ i e, es[i]? = some e -> e.cells.length = sz /\ ∀ r d, e.cells[r]? = some d -> ∃ v, vs'[(j + i) * sz + r]? = some v /\ v.oneCell' = true /\ VR F μ d v)
 | [], j, es, vs, he, hs, hj => by
  simp only [List.map_nil, Z8h] at he
  split at he
  ·rename_i hjn; cases he
   exact ⟨vs, rfl, hs, by simp [hjn], fun _ _ => rfl, fun i e he => by simp at he⟩
  ·cases he
 | (i, x) :: parts, j, es, vs, he, hs, hj => by
  simp only [List.map_cons] at he ⊢
  cases hx : evo s.env x with
  | none => simp [hx, Z8h] at he
  | some d =>
   rw [hx] at he;simp only [Z8h] at he
   split at he
   ·rename_i xs hb hlc
    obtain rfl := Nat.eq_of_beq_eq_true hb
    split at he
    ·rename_i l hb2 hl
     have hb2 := Nat.eq_of_beq_eq_true hb2
     cases he
     have hv := h.evo hx;have hc := Z4g hv hlc (fun y e => by subst e; exact hv.v_one);have hsz : (a.eval x).cells.size = sz := by rw [<- hc.len, hb2]
     have hjn : i + 1 <= n := by
      exact Zgq hl
     have hle : i * sz + sz <= n * sz := by
      have : (i + 1) * sz <= n * sz := Nat.mul_le_mul_right _ hjn;rw [Nat.add_mul] at this; omega
     have e1 : (a.eval x).cells.zipIdx.foldl (fun cs (c, j) => cs.setIfInBounds (i * sz + j) c) vs = ((a.eval x).cells.toList.zipIdx 0).foldl (fun cs (c, j) => cs.setIfInBounds (i * sz + j) c) vs := by
      rw [<- Array.foldl_toList, Array.toList_zipIdx]
     have hg := fun k => Zb4 (i * sz) (a.eval x).cells.toList 0 vs (by simp only [Array.length_toList, hsz]; omega) k;obtain ⟨vs', g1, g2, g3, g4, g5⟩ := Zc6 h parts (i + 1) l _ hl (show ((a.eval x).cells.zipIdx.foldl (fun cs (c, j) => cs.setIfInBounds (i * sz + j) c) vs).size = n * sz by rw [e1, Z98]; exact hs) hjn;refine ⟨vs', ?_, g2, by simp; omega, fun k hk => ?_, fun k e hk => ?_⟩
     ·unfold Instr.fill;simp only [hsz, ne_eq, not_true_eq_false, decide_false, Bool.false_or];rw [if_neg]
      ·exact g1
      ·simp [hs]; omega
     ·rw [g4 k (by rw [Nat.add_mul]; omega), e1, hg, if_neg (by omega)]
     ·match k, hk with
      | 0, hk =>
       simp at hk; subst hk;refine ⟨by rw [Z9b hlc, hb2], fun r dd hr => ?_⟩;rw [Z9b hlc] at hr;have hrl := (List.getElem?_eq_some_iff.1 hr).1;have hlt : r < (a.eval x).cells.size := by omega
       refine ⟨(a.eval x).cells[r], ?_, hc.one _ _ (Array.getElem?_eq_getElem hlt), hc.rel _ _ _ hr (Array.getElem?_eq_getElem hlt)⟩;rw [Nat.add_zero, g4 _ (by rw [Nat.add_mul]; omega), e1, hg, if_pos ⟨by omega, by simp only [Array.length_toList, hsz]; omega⟩];have : i * sz + r - (i * sz + 0) = r := by omega
       rw [this, Array.getElem?_toList, Array.getElem?_eq_getElem hlt]
      | k + 1, hk =>
       have := g5 k e (by simpa using hk)
       rwa [show i + 1 + k = i + (k + 1) by omega] at this
    ·cases he
   ·cases he
theorem Zc7 (hT : TOK P T) {t : TypeId} {e : TE} (he : Z1d T t = some e) : ∃ i z, P.info? t = some i /\ i.zero = some z /\ e.size = i.size /\ e.bytes = i.bytes /\ e.zero = ofV z /\ z.cells.size = i.size /\ ∀ v ∈ z.cells, v.oneCell' = true := by
 obtain ⟨i, d, z, h1, h2, h3, h4, h5, h6, h7, h8, h9, -⟩ := hT.at he;exact ⟨i, z, h1, h3, h4, h5, h7, h8, h9⟩
theorem Zpf {sz n : Nat} {z : Value} {d : D} {c : Array Value} (hd : VR F μ d z) (hb : Z7e d = true) (hsz : z.cells.size = sz) (hc : ∀ i, i < n * sz -> c[i]? = z.cells[i % sz]?) : Z1l F μ sz (List.replicate n d) c := by
 obtain ⟨h1, h2⟩ := Zgp hd hb;intro i e he;obtain ⟨hlt, rfl⟩ := List.getElem?_eq_some_iff.1 he;simp only [List.length_replicate] at hlt;simp only [List.getElem_replicate];refine ⟨by rw [h2, hsz], fun r x hx => ?_⟩;obtain ⟨v, g1, g2, g3⟩ := (h1 0 d rfl).2 r x hx;have hr : r < sz := by have := (List.getElem?_eq_some_iff.1 hx).1; omega
 have : (i + 1) * sz <= n * sz := Nat.mul_le_mul_right _ hlt;rw [Nat.add_mul] at this;refine ⟨v, ?_, g2, g3⟩;have e1 : (i * sz + r) % sz = r := by rw [Nat.add_comm, Nat.add_mul_mod_self_right, Nat.mod_eq_of_lt hr]
 rw [hc _ (by omega), e1];simpa using g1
end
end Go.Abs

namespace Go.Abs
open Go
section
variable {P : Program} {T : TT} {F : Fz} {μ : Mu} {w : World}
theorem Zbg {H : List Blk} (hr : HR F μ H w) {x : Blk} (hbf : BFr x) {sz : Nat} {es : List D} (hes : x.es = some (sz, es)) {c : Array Value} (hc : Z1l F μ sz es c)
  (hsz : es.length * sz <= c.size) (t : TypeId) : Left2 F μ H w (Z4v μ H.length (some (w.heap.size, c.size))) (H ++ [x]) (w.alloc (.cells c t)) := by
 obtain ⟨h1, h2, h3⟩ := Zji hr (hr.dom _ (Nat.le_refl _)) (Nat.le_refl _) hbf hes hc hsz t;rw [Z6y] at h1 h2;exact ⟨h1, h2, h3, by simp, fun j hj => by rw [Z2k _ (by omega)], .app _ _ _ _ _⟩
theorem Z2f (μ : Mu) (k : Nat) (p : Option (Nat × Nat)) : Z4v μ k p k = some p := Z6h μ k p
theorem Zgr {d : D} {v : Value} (hv : VR F μ d v) (hb : Z7e d = true) {t : TypeId} : Made P F μ w (.box d) (fun k => .b k 0) ((Instr.box t v).run P w) := by
 obtain ⟨h1, h2⟩ := Zgp hv hb;refine ⟨(fun _ _ e => by cases e), _, _, v.cells, t, .pointer (some ⟨w.heap.size, 0, none⟩), rfl, ?_, h1, by simp [h2], fun k μ' h => .b k 0 _ _ h⟩;simp [Instr.box, newVar, newRow, newObj, Sem.run]
theorem Zjy (hT : TOK P T) {t : TypeId} {e : TE} (he : Z1d T t = some e) (hb : Z7e e.zero = true) : Made P F μ w (.box e.zero) (fun k => .b k 0) ((Instr.alloc t true (.tuple #[])).run P w) := by
 obtain ⟨i, z, h1, h2, h3, h4, h5, h6, h7⟩ := Zc7 hT he;have hz : VR F μ e.zero z := by rw [h5]; exact .cl _ _ (CR.ofV z)
 have g1 := Zgr (P := P) (w := w) hz hb (t := t);have hzr : (zeroValue t).run P w = .ok z w := by simp [zeroValue, typeInfo, h1, h2]
 simp only [Instr.box] at g1;simp only [Instr.alloc, Sem.run_bind, hzr, Result.andThen_ok];simpa using g1
theorem Zmc (hT : TOK P T) {s : St} {a : Act} (h : ER F μ s a) {t : TypeId} {n : Nat} {parts : Array (Nat × Operand)} {K : Blk -> (Nat -> D) -> Prop}
  (hk : Zpd T t n (parts.toList.map fun (i, x) => (i, evo s.env x)) K) :
  ∃ x mk, Made P F μ w x mk ((Instr.buildSlice t n (parts.map fun (i, x) => (i, a.eval x))).run P w) /\ K x mk := by
 unfold Zpd at hk
 split at hk
 ·rename_i e he
  split at hk
  ·rename_i el hel
   split at hk
   ·rename_i e2 he2
    split at hk
    ·rename_i es sz hes hble hsz
     obtain ⟨i, z, h1, h2, h3, h4, h5, h6, h7⟩ := Zc7 hT he2;have hle := Nat.le_of_ble_eq_true hble
     let c0 : Array Value := (Array.range (n * e2.size)).map (z.cells[· % z.cells.size]!)
     obtain ⟨vs', g1, g2, g3, g4, g5⟩ := Zc6 h parts.toList 0 es c0 hes (by simp [c0]) (Nat.zero_le _);simp only [Nat.zero_add] at g3 g5;obtain ⟨x, hbf, hxe, hk⟩ : ∃ x : Blk, BFr x /\ x.es = some (e2.size, es) /\ K x (fun k => .o k e2.size n) := by
      split at hk
      ·rename_i hfr
       exact ⟨_, (fun _ _ e => by cases e; exact ⟨Z30.1 hfr⟩), rfl, hk⟩
      ·exact ⟨_, (fun _ _ e => by cases e), rfl, hk⟩
     refine ⟨_, _, ⟨hbf, e2.size, es, vs', el, .slice (some ⟨w.heap.size, 0, none⟩) n n, hxe, ?_, fun i e hi => g5 i e hi, by rw [g2, g3]; exact Nat.le_refl _, fun k μ' hk => .o k e2.size n _ _ n hk (Nat.le_refl _) (by rw [g2]; exact Nat.le_refl _)⟩, hk⟩;have hs := Z6i (w := w) hT he2;have hzr : (zeroValue el).run P w = .ok z w := by simp [zeroValue, typeInfo, h1, h2]
     unfold Instr.buildSlice;simp only [Sem.run_bind, run_underlying (Z61 hT he hel) w, Result.andThen_ok, hs];rw [if_neg (by omega)];have g1' : Instr.fill (fun i => some (i * e2.size, e2.size)) c0 (Array.map (fun x : Nat × Operand => (x.fst, a.eval x.snd)) parts).toList = some vs' := by
      rw [Array.toList_map]; exact g1
     split
     ·rename_i h0
      have e0 : Array.map (fun x => (#[] : Array Value)[x % (#[] : Array Value).size]!) (Array.range (n * e2.size)) = c0 := by
       apply Array.ext
       ·simp [c0]
       ·intro i hi; simp [h0] at hi
      simp only [Sem.run_bind, Sem.run_pure, Result.andThen_ok];rw [e0, g1'];simp [newRow, newObj, Sem.run]
     ·simp only [Sem.run_bind, hzr, Sem.run_pure, Result.andThen_ok];rw [show Array.map (fun x => z.cells[x % z.cells.size]!) (Array.range (n * e2.size)) = c0 from rfl, g1'];simp [newRow, newObj, Sem.run]
    ·exact hk.elim
   ·exact hk.elim
  ·exact hk.elim
 ·exact hk.elim
theorem Zif {s : St} {a : Act} (h : ER F μ s a) {x y : Operand} (hs : Zie x y = true) {k : IntKind} {n : Int} (hx : evo s.env x = some (.v (.int k n))) : ∃ k', a.eval x = .int k n /\ a.eval y = .int k' n := by
 have hv := (h.evo hx).v_inv;refine ⟨?_, ?_⟩
 ·cases y with
  | const v => cases v with | int k' m => exact k' | _ => exact k
  | _ => exact k
 ·refine ⟨hv, ?_⟩;unfold Zie at hs
  split at hs
  ·rename_i a1 b1
   obtain rfl := Nat.eq_of_beq_eq_true hs;exact hv
  ·rename_i k1 n1 k2 m1
   obtain rfl := of_decide_eq_true hs;simp only [Act.eval, Value.int.injEq] at hv;simp only [Act.eval];rw [hv.2]
  ·cases hs
theorem Zga {z : Array Value} {n j : Nat} (hz : 0 < z.size) (hj : j < n) : (madeCells z n)[j]? = z[j % z.size]? := by
 have hlt := Nat.mod_lt j hz;have e1 : z[j % z.size]! = z[j % z.size] := getElem!_pos z (j % z.size) hlt;simp only [madeCells, Array.getElem?_map];rw [Array.getElem?_eq_getElem (show j < (Array.range n).size by simpa using hj), Array.getElem?_eq_getElem hlt];simp [e1]
theorem Znu (z : Value) : frD (ofV z) = true := Zwc (F := Fz.nil) (CR.ofV z)
theorem Zmd (hT : TOK P T) {s : St} {a : Act} (h : ER F μ s a) {t : TypeId} {n c : Operand} {K : Blk -> (Nat -> D) -> Prop} (hk : Zpe ar T t (Zie n c) (evo s.env n) K) :
  ∃ x mk, Made P F μ w x mk ((Instr.makeSlice t (a.eval n) (a.eval c)).run P w) /\ K x mk := by
 unfold Zpe at hk
 split at hk
 ·rename_i e k m he hsame hn
  split at hk
  ·rename_i el hel
   split at hk
   ·rename_i e2 he2
    obtain ⟨h0, ⟨hroom, hroom2⟩, hk⟩ := hk;have h0 : 0 <= m := h0;have hroom : m.toNat * e2.bytes <= 140737488355328 := hroom;have hroom2 : m.toNat <= 4611686018427387904 := hroom2
    split at hk
    ·rename_i xs hxs
     obtain ⟨i, z, h1, h2, h3, h4, h5, h6, h7⟩ := Zc7 hT he2;obtain ⟨k', e1, e3⟩ := Zif h hsame hn;have hz : VR F μ e2.zero z := by rw [h5]; exact .cl _ _ (CR.ofV z)
     have hbox : Z7e e2.zero = true := by cases hq : e2.zero <;> rw [hq] at hxs <;> simp [Z35] at hxs <;> rfl
     have hrun := run_make (P := P) w t el i z (Z61 hT he hel) h1 h2 k k' m m h0 (Int.le_refl _) (by
      rw [<- h4]
      have : ((e2.bytes * m.toNat : Nat) : Int) <= 281474976710656 := by rw [Nat.mul_comm]; omega
      rw [Int.natCast_mul, Int.toNat_of_nonneg h0] at this; exact this) (by omega)
     rw [<- h3] at hrun;have hcs : (madeCells z.cells (m.toNat * e2.size)).size = m.toNat * e2.size := by simp [madeCells]
     have hcell : Z1l F μ e2.size (List.replicate m.toNat e2.zero) (madeCells z.cells (m.toNat * e2.size)) := Zpf hz hbox (by rw [h6, h3]) (fun j hj => by
      rw [Zga (by rw [h6, <- h3]; exact Nat.pos_of_ne_zero (fun e => by rw [e] at hj; omega)) hj, h6, <- h3])
     refine ⟨_, _, ⟨(fun _ _ e => by cases e; exact .rep (by rw [h5]; exact Znu z)), e2.size, List.replicate m.toNat e2.zero, _, el, .slice (some ⟨w.heap.size, 0, none⟩) m.toNat m.toNat, rfl, ?_, hcell, by rw [hcs]; simp, fun kk μ' hkk => .o kk e2.size m.toNat _ _ m.toNat hkk (Nat.le_refl _) (by rw [hcs]; exact Nat.le_refl _)⟩, hk⟩;rw [e1, e3]; exact hrun
    ·exact hk.elim
   ·exact hk.elim
  ·exact hk.elim
 ·exact hk.elim
theorem Zf2 (hT : TOK P T) {s : St} {a : Act} (h : ER F μ s a) {o : Oper} {K : Blk -> (Nat -> D) -> Prop} (hk : Z5g ar T s K o.op) :
  (∀ c, o.op ≠ .defer c) /\ ∃ x mk y, Made P F μ w x mk (y.run P w) /\ execOp a.eval o = (do pure (.value (<- y))) /\ K x mk := by
 obtain ⟨dst, op, type, pos, after, guard⟩ := o;simp only at hk ⊢
 cases op <;> try exact hk.elim
 case alloc t =>
  refine ⟨fun c e => (by cases e), ?_⟩;simp only [Z5g] at hk
  split at hk
  ·rename_i e he
   split at hk
   ·rename_i hb; exact ⟨_, _, _, Zjy hT he hb, rfl, hk⟩
   ·exact hk.elim
  ·exact hk.elim
 case box t x =>
  refine ⟨fun c e => (by cases e), ?_⟩;simp only [Z5g] at hk
  split at hk
  ·rename_i d hd
   split at hk
   ·rename_i hb; exact ⟨_, _, _, Zgr (h.evo hd) hb, rfl, hk⟩
   ·exact hk.elim
  ·exact hk.elim
 case buildSlice t n parts =>
  refine ⟨fun c e => (by cases e), ?_⟩;obtain ⟨x, mk, h1, h2⟩ := Zmc hT h hk;exact ⟨x, mk, _, h1, rfl, h2⟩
 case makeSlice t n c =>
  refine ⟨fun c e => (by cases e), ?_⟩;obtain ⟨x, mk, h1, h2⟩ := Zmd hT h hk;exact ⟨x, mk, _, h1, rfl, h2⟩
end
end Go.Abs

namespace Go.Abs
open Go
section
variable {P : Program} {T : TT} {F : Fz} {μ : Mu} {w : World}
theorem Zf3 {b : Nat} {c c' : Array Value} {ty : TypeId} (hw : w.heap[b]? = some (.cells c ty (0, 0))) : (w.setRow b c').heap = w.heap.setIfInBounds b (.cells c' ty (0, 0)) := by
 apply Array.ext_getElem?
 intro j;simp only [World.setRow, Array.getElem?_modify, Array.getElem?_setIfInBounds];have hlt := (Array.getElem?_eq_some_iff.1 hw).1
 by_cases hj : b = j
 ·subst hj;have hget : w.heap[b] = .cells c ty (0, 0) := (Array.getElem?_eq_some_iff.1 hw).2;simp [hlt, hget]
 ·simp [hj]
theorem Zd3 (t ty e ety : TypeId) (i : TypeInfo) (ht : P.underlying t = some (.slice e)) (hi : P.info? e = some i)
  (g sLen sCap : Nat) (cur : Array Value) (hg : w.heap[g]? = some (.cells cur ety (0, 0)))
  (a : Addr) (m c : Nat) (news : List Value) (hl : news.length = m * i.size) (hnews : ∀ j u, news[j]? = some u -> w.cell? (a.add j) = some u) (h1 : ∀ u ∈ news, u.oneCell' = true)
  (hroom : sLen + m <= sCap) (hfit : sLen * i.size + news.length <= cur.size) :
  (Builtin.append_ #[t, t] ty #[.slice (some ⟨g, 0, none⟩) sLen sCap, .slice (some a) m c]).run P w =
   .ok (.slice (some ⟨g, 0, none⟩) (sLen + m) sCap) (w.setRow g (cur.toList.take (sLen * i.size) ++ news ++ cur.toList.drop (sLen * i.size + news.length)).toArray) := by
 have hf := run_firstCells_some (P := P) w i.size m a m c news hl hnews;have hst := run_storeCells_at P g (sLen * i.size) ety news 0 cur w hg (by simpa using hfit) h1;simp only [Nat.add_zero] at hst;simp [Builtin.append_, run_underlying ht, sizeOf, typeInfo, hi, Builtin.lenOf, hroom, hf, Addr.add_lit, hst]
theorem Z67 (t ty e : TypeId) (i : TypeInfo) (ht : P.underlying t = some (.slice e)) (hi : P.info? e = some i) (sLen sCap : Nat) (base x : Option Addr) (c : Nat) (h : sLen <= sCap) :
  (Builtin.append_ #[t, t] ty #[.slice base sLen sCap, .slice x 0 c]).run P w = .ok (.slice base sLen sCap) w := by
 have hf : (Builtin.firstCells i.size 0 (.slice x 0 c)).run P w = .ok #[] w := by
  cases x with
  | none => exact run_firstCells_none w _ _ _ _
  | some a => exact run_firstCells_some w i.size 0 a 0 c [] (by simp) (fun j v hj => by simp at hj)
 cases base <;> simp [Builtin.append_, run_underlying ht, sizeOf, typeInfo, hi, Builtin.lenOf, h, hf, storeCells]
theorem Zb6 (w : World) (t ty e : TypeId) (i : TypeInfo) (z : Value) (ht : P.underlying t = some (.slice e)) (hi : P.info? e = some i) (hz : i.zero = some z) (ad : Option Addr)
  (a : Addr) (n c : Nat) (news : List Value) (hl : news.length = n * i.size) (hnews : ∀ j v, news[j]? = some v -> w.cell? (a.add j) = some v)
  (h0 : 0 < n) (h63 : (n : Int) <= 9223372036854775807) (h48 : n * i.bytes <= 281474976710656) :
  (Builtin.append_ #[t, t] ty #[.slice ad 0 0, .slice (some a) n c]).run P w =
   .ok (.slice (some ⟨w.heap.size, 0, none⟩) n (grownCap w n 0 e)) (w.drew.alloc (.cells (news.toArray ++ Builtin.zeroCells z.cells (grownCap w n 0 e - n)) e)) := by
 cases ad with
 | none => exact run_append_nil w t ty e i z ht hi hz a n c news hl hnews h0 h63 h48
 | some b =>
  have := run_append_grow (P := P) w t ty e i z ht hi hz b 0 0 [] (by simp) (fun j v hj => by simp at hj) a n c news hl hnews (by omega) (by simpa using h63) (by
   have : Builtin.nextslicecap (0 + n) 0 = n := by unfold Builtin.nextslicecap; rw [if_pos (by omega)]; omega
   rw [this]; exact h48)
  rw [this]; simp
theorem Left2.of_drew {μ' : Mu} {H H' : List Blk} {w' : World} (h : Left2 F μ H w.drew μ' H' w') : Left2 F μ H w μ' H' w' :=
 ⟨h.hr, ⟨h.post.mono, h.post.back, h.post.size, h.post.tape, h.post.os, h.post.output, h.post.keep⟩, h.mono, h.len, h.same, h.mks⟩
theorem Zuc (hT : TOK P T) {H : List Blk} (hr : HR F μ H w) {t ty : TypeId} {k sz n el : Nat} {es : List D} {e e2 : TE} {v1 : Value} (hv1 : VR F μ (.o k (sz + 1) n) v1) (he : Z1d T t = some e) (hel : e.el = some (none, el))
  (he2 : Z1d T el = some e2) (hsz : sz + 1 = e2.size) (hkb : Z1m H k = some (.els (sz + 1) es)) (hn : n = es.length) {ys : List D} {m c : Nat} {x : Option Addr} (hys : ys.length = m) (hfy : FrL ys)
  (hroom : (n + m) * e2.bytes <= 140737488355328) (hroom2 : n + m <= 4611686018427387904)
  (hsrc : 0 < m -> ∃ a, x = some a /\ ∃ news : List Value, news.length = m * (sz + 1) /\ (∀ j u, news[j]? = some u -> w.cell? (a.add j) = some u) /\ (∀ u ∈ news, u.oneCell' = true) /\ Z1l F μ (sz + 1) ys news.toArray) :
  ∃ w' μ' v', (Builtin.append_ #[t, t] ty #[v1, .slice x m c]).run P w = .ok v' w' /\ VR F μ' (.o H.length (sz + 1) (n + m)) v' /\ Left2 F μ H w μ' (H.set k .dead ++ [.els (sz + 1) (es ++ ys)]) w' := by
 obtain ⟨i, z, h1, h2, h3, h4, h5, h6, h7⟩ := Zc7 hT he2;have hsl := Z61 hT he hel;have hblk := Z5f hkb;have hkl := Z7k hblk;have hisz : i.size = sz + 1 := by rw [<- h3, <- hsz]
 have hlen : (es ++ ys).length = n + m := by rw [List.length_append, hys, hn]
 have hfe : FrL es := hr.fr k _ (by rw [<- Z1u]; exact hkb) _ _ rfl;have hbf : BFr (.els (sz + 1) (es ++ ys)) := fun _ _ e => by cases e; exact hfe.app hfy
 have grow : ∀ (cells : Array Value), Z1l F μ (sz + 1) (es ++ ys) cells -> (es ++ ys).length * (sz + 1) <= cells.size -> 
   Left2 F μ H w (Z4v μ H.length (some (w.heap.size, cells.size))) (H.set k .dead ++ [.els (sz + 1) (es ++ ys)]) (w.drew.alloc (.cells cells el)) := fun cells hc hl => by
  obtain ⟨q1, q2⟩ := Zns hr hkl;have r2 : Post F μ H w F μ (H.set k .dead) w.drew := q2.congr rfl rfl rfl rfl;have := Zbg (q1.congr (w' := w.drew) rfl) (x := .els (sz + 1) (es ++ ys)) hbf rfl hc hl el;rw [List.length_set] at this;exact ⟨this.hr, r2.trans this.post, this.mono, by have := this.len; simpa using this, fun j hj => this.same j (by simpa using hj), .set_app _ _ _ _ hblk⟩
 have ren : ∀ (H1 : List Blk) (W : World) (es1 : List D), HR F μ H1 W -> Post F μ H w F μ H1 W -> H1.length = H.length -> (∀ y : Blk, H1.set k y = H.set k y) -> Z17 H1 k = some (sz + 1, es1) -> es1 = es ++ ys -> ∀ p, μ k = some p ->
   Left2 F μ H w (Z4v μ H.length p) (H.set k .dead ++ [.els (sz + 1) (es ++ ys)]) W := fun H1 W es1 g1 g2 g3 g4 g5 g6 p hp => by
  have := Zpc g1 (x := .els (sz + 1) (es ++ ys)) (y := .dead) hbf (fun _ _ e => by cases e) g5 hp (by rw [g6]; rfl) rfl (g1.dom _ (Nat.le_refl _)) (Nat.le_refl _);have e0 : H1.length = (H.set k .dead).length := by simp [g3]
  rw [g4, e0, Z6y, List.length_set] at this;exact ⟨this.1, g2.trans this.2.1, this.2.2, by simp, fun j hj => by rw [Z2k _ (by omega)], .set_app _ _ _ _ hblk⟩
 rcases Nat.eq_zero_or_pos m with hm | hm
 ·
  obtain rfl : ys = [] := by cases ys with
   | nil => rfl
   | cons => simp at hys; omega
  subst hm;have same := ren H w es hr (Post.refl _ _ _ _) rfl (fun _ => rfl) hblk (by simp)
  cases hv1 with
  | cl _ _ hc => cases hc
  | o _ _ _ b M cap hμ hc hM =>
   exact ⟨w, _, _, Z67 (P := P) t ty el i hsl h1 n cap _ x c hc, .o H.length (sz + 1) n b M cap (Z2f μ _ _) hc hM, same _ hμ⟩
  | oNil _ _ ad hμ =>
   exact ⟨w, _, _, Z67 (P := P) t ty el i hsl h1 0 0 _ x c (Nat.le_refl _), .oNil H.length (sz + 1) ad (Z2f μ _ _), same _ hμ⟩
 ·obtain ⟨a, rfl, news, g1, g2, g3, g4⟩ := hsrc hm;have hsz0 : 0 < sz + 1 := Nat.succ_pos _
  cases hv1 with
  | cl _ _ hc => cases hc
  | o _ _ _ b M cap hμ hc hM =>
   rcases hr.row k _ _ hblk (by rw [hμ]; simp) with ⟨e1, -⟩ | ⟨b', m', cur, ety, e1, hw, hcs, hle, hcr⟩
   ·rw [hμ] at e1; cases e1
   ·rw [hμ] at e1; cases e1
    by_cases hfit : n + m <= cap
    ·
     have hfit2 : (n + m) * (sz + 1) <= cap * (sz + 1) := Nat.mul_le_mul_right _ hfit;have hfit3 : n * (sz + 1) + m * (sz + 1) <= cur.size := by rw [<- Nat.add_mul]; omega
     have hrun := Zd3 (P := P) t ty el ety i hsl h1 b n cap cur hw a m c news (by rw [hisz]; exact g1) g2 g3 hfit (by rw [hisz, g1]; exact hfit3);rw [hisz] at hrun
     let cells : Array Value := (cur.toList.take (n * (sz + 1)) ++ news ++ cur.toList.drop (n * (sz + 1) + news.length)).toArray
     have hcells : Z1l F μ (sz + 1) (es ++ ys) cells := by
      refine Z8g (c := cur) (news := news.toArray) hcr g4 (by simp [g1, hys]) (fun j hj => ?_) (fun j hj => ?_)
      ·rw [<- hn] at hj;simp only [cells, List.getElem?_toArray];rw [List.append_assoc, List.getElem?_append_left (by simp; omega), List.getElem?_take, if_pos hj]; simp
      ·rw [<- hn];simp only [cells, List.getElem?_toArray];simp only [List.size_toArray] at hj;rw [List.append_assoc, List.getElem?_append_right (by simp; omega), List.getElem?_append_left (by simp; omega)]
       congr 1; simp; omega
     obtain ⟨q1, q2⟩ := Zqx hr hblk hμ hw (Zf3 (c' := cells) hw) rfl rfl rfl (by simp only [cells, List.size_toArray, List.length_append, List.length_take, List.length_drop, Array.length_toList]; omega) (x := .els (sz + 1) (es ++ ys)) hbf rfl
      (by rw [hlen]; omega) hcells
     refine ⟨_, _, _, hrun, .o H.length (sz + 1) (n + m) b _ cap (Z2f μ _ _) hfit hM, ?_⟩;exact ren _ _ _ q1 q2 (by simp) (fun y => by simp) (by rw [Zu6 _ hkl, if_pos rfl]; rfl) rfl _ hμ
    ·
     have hg : cap < n + m := by omega
     have holds : ∃ olds : List Value, olds.length = n * i.size /\ (∀ j v, olds[j]? = some v -> w.cell? ((⟨b, 0, none⟩ : Addr).add j) = some v) /\ ∀ j, j < n * (sz + 1) -> olds.toArray[j]? = cur[j]? := by
      refine ⟨cur.toList.take (n * (sz + 1)), ?_, fun j v hj => ?_, fun j hj => ?_⟩
      ·rw [hisz]; simp; rw [hn]; omega
      ·rw [add_lit];rw [List.getElem?_take] at hj
       split at hj
       ·simp only [World.cell?, hw]; simpa using hj
       ·cases hj
      ·simp [List.getElem?_take, hj]
     obtain ⟨olds, o1, o2, o3⟩ := holds;have hrun := run_append_grow (P := P) w t ty el i z hsl h1 h2 ⟨b, 0, none⟩ n cap olds o1 o2 a m c news (by rw [hisz]; exact g1) g2 hg (by omega) (growslice_fits hg (by rw [<- h4]; exact hroom));have hcap : n + m <= grownCap w (n + m) cap el := grownCap_ge w _ _ _;have hcells : Z1l F μ (sz + 1) (es ++ ys) (olds.toArray ++ news.toArray ++ Builtin.zeroCells z.cells (grownCap w (n + m) cap el - (n + m))) := by
      refine Z8g (c := cur) (news := news.toArray) hcr g4 (by simp [g1, hys]) (fun j hj => ?_) (fun j hj => ?_)
      ·rw [<- hn] at hj;rw [Array.append_assoc, Array.getElem?_append_left (by simp [o1, hisz]; omega)];exact o3 j hj
      ·rw [<- hn];simp only [List.size_toArray] at hj;rw [Array.append_assoc, Array.getElem?_append_right (by simp [o1, hisz]), Array.getElem?_append_left (by simp [o1, hisz]; omega)]
       congr 1; simp [o1, hisz]
     have hsz2 : (olds.toArray ++ news.toArray ++ Builtin.zeroCells z.cells (grownCap w (n + m) cap el - (n + m))).size = grownCap w (n + m) cap el * (sz + 1) := by
      simp only [Array.size_append, List.size_toArray, o1, hisz, g1, size_zeroCells, h6];rw [<- Nat.add_mul, <- Nat.add_mul]; congr 1; omega
     refine ⟨_, _, _, hrun, .o H.length (sz + 1) (n + m) _ _ _ (Z2f μ _ _) hcap (by rw [hsz2]; exact Nat.le_refl _), grow _ hcells ?_⟩;rw [hlen, hsz2]; exact Nat.mul_le_mul_right _ hcap
  | oNil _ _ ad hμ =>
   rcases hr.row k _ _ hblk (by rw [hμ]; simp) with ⟨-, e2⟩ | ⟨b', m', cur, ety, e1, hw, hcs, hle, hcr⟩
   ·subst e2;have hrun := Zb6 (P := P) w t ty el i z hsl h1 h2 ad a m c news (by rw [hisz]; exact g1) g2 hm (by omega) (by rw [<- h4, Nat.zero_add] at *; omega);have hcap : m <= grownCap w m 0 el := grownCap_ge w _ _ _;have hsz2 : (news.toArray ++ Builtin.zeroCells z.cells (grownCap w m 0 el - m)).size = grownCap w m 0 el * (sz + 1) := by
     simp only [Array.size_append, List.size_toArray, hisz, g1, size_zeroCells, h6];rw [<- Nat.add_mul]; congr 1; omega
    have hcells : Z1l F μ (sz + 1) ([] ++ ys) (news.toArray ++ Builtin.zeroCells z.cells (grownCap w m 0 el - m)) := by
     refine Z8g (c := #[]) (news := news.toArray) (fun i e he => by simp at he) g4 (by simp [g1, hys]) (fun j hj => by simp at hj) (fun j hj => ?_);simp only [List.length_nil, Nat.zero_mul, Nat.zero_add];rw [Array.getElem?_append_left hj]
    rw [Nat.zero_add] at hlen ⊢;refine ⟨_, _, _, hrun, .o H.length (sz + 1) m _ _ _ (Z2f μ _ _) hcap (by rw [hsz2]; exact Nat.le_refl _), grow _ hcells ?_⟩;rw [hlen, hsz2]; exact Nat.mul_le_mul_right _ hcap
   ·rw [hμ] at e1; cases e1
theorem Zud (ad : Option Addr) (hT : TOK P T) {H : List Blk} (hr : HR F μ H w) {t ty : TypeId} {sz el : Nat} {e e2 : TE} (he : Z1d T t = some e) (hel : e.el = some (none, el))
  (he2 : Z1d T el = some e2) (hsz : sz + 1 = e2.size) {ys : List D} {m c : Nat} {x : Option Addr} (hys : ys.length = m) (hfy : FrL ys)
  (hroom : m * e2.bytes <= 140737488355328) (hroom2 : m <= 4611686018427387904)
  (hsrc : 0 < m -> ∃ a, x = some a /\ ∃ news : List Value, news.length = m * (sz + 1) /\ (∀ j u, news[j]? = some u -> w.cell? (a.add j) = some u) /\ (∀ u ∈ news, u.oneCell' = true) /\ Z1l F μ (sz + 1) ys news.toArray) :
  ∃ w' μ' v', (Builtin.append_ #[t, t] ty #[.slice ad 0 0, .slice x m c]).run P w = .ok v' w' /\ VR F μ' (.o H.length (sz + 1) m) v' /\ Left2 F μ H w μ' (H ++ [.els (sz + 1) ys]) w' := by
 obtain ⟨i, z, h1, h2, h3, h4, h5, h6, h7⟩ := Zc7 hT he2;have hsl := Z61 hT he hel;have hisz : i.size = sz + 1 := by rw [<- h3, <- hsz]
 rcases Nat.eq_zero_or_pos m with hm | hm
 ·obtain rfl : ys = [] := by cases ys with
   | nil => rfl
   | cons => simp at hys; omega
  subst hm;obtain ⟨q1, q2, q3⟩ := Zc5 hr (sz := sz + 1) (hr.dom _ (Nat.le_refl _)) (Nat.le_refl _);rw [Z6y] at q1 q2;exact ⟨w, _, _, Z67 (P := P) t ty el i hsl h1 0 0 _ x c (Nat.le_refl _), .oNil H.length (sz + 1) ad (Z2f μ _ _), q1, q2, q3, by simp, fun j hj => by rw [Z2k _ (by omega)], .app _ _ _ _ _⟩
 ·obtain ⟨a, rfl, news, g1, g2, g3, g4⟩ := hsrc hm;have hrun := Zb6 (P := P) w t ty el i z hsl h1 h2 ad a m c news (by rw [hisz]; exact g1) g2 hm (by omega) (by rw [<- h4]; omega);have hcap : m <= grownCap w m 0 el := grownCap_ge w _ _ _;have hsz2 : (news.toArray ++ Builtin.zeroCells z.cells (grownCap w m 0 el - m)).size = grownCap w m 0 el * (sz + 1) := by
   simp only [Array.size_append, List.size_toArray, hisz, g1, size_zeroCells, h6];rw [<- Nat.add_mul]; congr 1; omega
  have hcells : Z1l F μ (sz + 1) ys (news.toArray ++ Builtin.zeroCells z.cells (grownCap w m 0 el - m)) := by
   have := Z8g (c := #[]) (c' := news.toArray ++ Builtin.zeroCells z.cells (grownCap w m 0 el - m)) (news := news.toArray) (es := []) (fun i e he => by simp at he) g4 (by simp [g1, hys]) (fun j hj => by simp at hj) (fun j hj => by
    simp only [List.length_nil, Nat.zero_mul, Nat.zero_add]
    rw [Array.getElem?_append_left hj])
   simpa using this
  refine ⟨_, _, _, hrun, .o H.length (sz + 1) m _ _ _ (Z2f μ _ _) hcap (Nat.le_of_eq hsz2.symm), ?_⟩;have := Zbg (hr.congr (w' := w.drew) rfl) (x := .els (sz + 1) ys) (fun _ _ e => by cases e; exact hfy) (sz := sz + 1) (es := ys) rfl hcells (by rw [hys, hsz2]; exact Nat.mul_le_mul_right _ hcap) el;exact this.of_drew
theorem Zf4 (hT : TOK P T) {H : List Blk} (hr : HR F μ H w) {t t2 ty : TypeId} {d2 : D} {v2 : Value} (ad : Option Addr) (hv2 : VR F μ d2 v2) {K : Option D -> List Blk -> Prop}
  (h : Zub ar T H t t2 K d2) :
  ∃ w' μ' H' d' v', (Builtin.append_ #[t, t2] ty #[.slice ad 0 0, v2]).run P w = .ok v' w' /\ VR F μ' d' v' /\ Left2 F μ H w μ' H' w' /\ K (some d') H' := by
 unfold Zub at h
 split at h
 ·rename_i e he htt
  obtain rfl := Nat.eq_of_beq_eq_true htt
  split at h
  ·rename_i el hel
   split at h
   ·rename_i e2 he2
    split at h
    ·exact h.elim
    ·rename_i sz hsz
     obtain ⟨ys, m, x, c, rfl, hys, hfy, ⟨hroom, hk⟩, hsrc⟩ := Zf1 hr (Nat.succ_pos _) hv2 h;obtain ⟨w', μ', v', r1, r2, r3⟩ := Zud (P := P) ad hT hr (ty := ty) (c := c) he hel he2 hsz.symm hys hfy hroom.1 hroom.2 hsrc;exact ⟨w', μ', _, _, v', r1, r2, r3, hk⟩
   ·exact h.elim
  ·exact h.elim
 ·exact h.elim
theorem Zme (hT : TOK P T) {H : List Blk} (hr : HR F μ H w) {t t2 ty : TypeId} {d1 d2 : D} {v1 v2 : Value} (hv1 : VR F μ d1 v1) (hv2 : VR F μ d2 v2) {K : Option D -> List Blk -> Prop}
  (h : Zwh ar T H t t2 K d2 d1) :
  ∃ w' μ' H' d' v', (Builtin.append_ #[t, t2] ty #[v1, v2]).run P w = .ok v' w' /\ VR F μ' d' v' /\ Left2 F μ H w μ' H' w' /\ K (some d') H' := by
 unfold Zwh at h
 split at h
 ·split at h
  ·rename_i e he htt
   obtain rfl := Nat.eq_of_beq_eq_true htt
   split at h
   ·rename_i el hel
    split at h
    ·rename_i e2 sz' es he2 hkb
     split at h
     ·rename_i hb1 hb2
      obtain rfl := Nat.eq_of_beq_eq_true hb1;have hb2 := Nat.eq_of_beq_eq_true hb2;obtain ⟨hn, h⟩ := h;obtain ⟨ys, m, x, c, rfl, hys, hfy, ⟨hroom, hk⟩, hsrc⟩ := Zf1 hr (Nat.succ_pos _) hv2 h;obtain ⟨w', μ', v', r1, r2, r3⟩ := Zuc (P := P) hT hr (ty := ty) (c := c) hv1 he hel he2 hb2 hkb hn hys hfy hroom.1 hroom.2 hsrc;exact ⟨w', μ', _, _, v', r1, r2, r3, hk⟩
     ·exact h.elim
    ·exact h.elim
   ·exact h.elim
  ·exact h.elim
 ·obtain rfl := hv1.v_inv;exact Zf4 hT hr _ hv2 h
 ·cases hv1 with | cl _ _ hc => cases hc with | z0 a => exact Zf4 hT hr _ hv2 h
 ·exact h.elim
theorem Zf5 (hT : TOK P T) {H : List Blk} (hr : HR F μ H w) {t : TypeId} {dm dk dv : D} {vm vk vv : Value} (hm : VR F μ dm vm) (hk : VR F μ dk vk) (hv : VR F μ dv vv) {K : Option D -> List Blk -> Prop} (h : Znt ar T H t K dk dv dm) :
  ∃ w' H', (Instr.mapUpdate t vm vk vv).run P w = .ok () w' /\ Left2 F μ H w μ H' w' /\ K none H' := by
 unfold Znt at h
 split at h
 ·rename_i k
  obtain ⟨b, mm, rfl, hμ⟩ : ∃ b m, vm = .map (some b) /\ μ k = some (some (b, m)) := by cases hm with | cl _ _ hc => cases hc | mv _ b m hμ => exact ⟨b, m, rfl, hμ⟩
  split at h
  ·rename_i kn ee kn' ents hmt hb hfr
   split at h
   ·rename_i hkn
    obtain rfl := Nat.eq_of_beq_eq_true hkn;obtain ⟨l, hkd, hok⟩ := h.out;have hob := Z42 hb;obtain ⟨b', es, clock, o1, o2, o3, o4, o5, o6, o7⟩ := hr.obj _ _ hob (by rw [hμ]; simp);rw [hμ] at o1; cases o1;obtain ⟨kt, et, u1, u2, u3, u4⟩ := Z7d hT hmt;obtain ⟨rfl, hl⟩ := Zjw hkd hk;have her : EntsR F kn es ents := ⟨o3, o6⟩;have hfind := Zb5 (P := P) (w := w) (F := F) (T := T) (t := t) hT u2 u3 her hl;have hchk : (Instr.checkKey false 10000 kt (Z1k (kn != 0) l)).run P w = .ok () w := by
     have := Z5d (P := P) false 6 9994 kt _ u2 l w hl;rw [u3] at this; exact this
    have hcv := Zgo hv hfr;have fin : ∀ (es' : Array MapEntry) (c' : Nat), (Instr.mapUpdate t (.map (some b)) (Z1k (kn != 0) l) vv).run P w = .ok () { w with heap := w.heap.setIfInBounds b (.map es' c') } ->
      (∀ w', w'.heap[b]? = some (.map es' c') -> OBR F μ k w' (.mp kn (ar.mput ents l dv))) -> ∃ w' H', (Instr.mapUpdate t (.map (some b)) (Z1k (kn != 0) l) vv).run P w = .ok () w' /\ Left2 F μ H w μ H' w' /\ K none H' := fun es' c' hrun hobr => by
     obtain ⟨q1, q2⟩ := Zbc hr (y := .mp kn (ar.mput ents l dv)) (o := .map es' c') hob hμ o7 (w' := { w with heap := w.heap.setIfInBounds b (.map es' c') }) rfl rfl rfl rfl (hobr _);exact ⟨_, _, hrun, ⟨q1, q2, fun _ _ e => e, by simp, fun _ _ => rfl, fun i hi => ⟨Z48 (y := .mk) hob (by intro e; cases e) _ hi, fun _ e => e⟩⟩, hok⟩
    have hgo : (getObj b).run P w = .ok (.map es clock) w := by simp [getObj, Sem.run, o2]
    have hso : ∀ o, (setObj b o).run P w = .ok () { w with heap := w.heap.setIfInBounds b o } := fun o => by simp [setObj, Sem.run, o2]
    cases hf : ents.findIdx? (·.1 == l) with
    | none =>
     rw [hf, Option.bind_none] at hfind;have hput : ar.mput ents l dv = ents ++ [(l, dv)] := by show (match ents.findIdx? (·.1 == l) with | some i => _ | none => _) = _; rw [hf]
     refine fin (es.push { key := Z1k (kn != 0) l, val := vv, born := clock }) (clock + 1) ?_ fun w' hw' => ?_
     ·unfold Instr.mapUpdate;simp only [Sem.run_bind, run_underlying u1, Result.andThen_ok, hgo, hchk, hfind, hso]
     ·rw [hput];refine ⟨b, _, _, hμ, hw', by simp [o3], fun i e he => ?_, fun i j e e' he he' hbb => ?_, fun i e x he hx => ?_, o7⟩
      ·rw [Array.getElem?_push] at he
       split at he
       ·cases he; simp
       ·have := o4 i e he; omega
      ·rw [Array.getElem?_push] at he he'
       split at he <;> split at he'
       ·omega
       ·cases he; have := o4 j e' he'; simp at hbb; omega
       ·cases he'; have := o4 i e he; simp at hbb; omega
       ·exact o5 i j e e' he he' hbb
      ·rw [Array.getElem?_push] at he
       split at he
       ·rename_i e1; cases he
        rw [e1, o3] at hx; simp at hx; subst hx;exact ⟨rfl, hl, hcv⟩
       ·have hlt := (Array.getElem?_eq_some_iff.1 he).1;rw [List.getElem?_append_left (by omega)] at hx;exact o6 i e x he hx
    | some j =>
     obtain ⟨x0, g1, g2, g3⟩ := find_at hf;have hj : j < es.size := by rw [o3]; exact (List.getElem?_eq_some_iff.1 g1).1
     have hej : es[j]? = some es[j] := Array.getElem?_eq_getElem hj;obtain ⟨e1, e2, -⟩ := o6 j _ _ hej g1;rw [hf, Option.bind_some, hej, Option.map_some] at hfind;have hkey : es[j].key = Z1k (kn != 0) l := by rw [e1, g3]
     have hput : ar.mput ents l dv = ents.set j (l, dv) := by show (match ents.findIdx? (·.1 == l) with | some i => _ | none => _) = _; rw [hf]
     refine fin (es.modify j fun e => { e with key := Z1k (kn != 0) l, val := vv }) clock ?_ fun w' hw' => ?_
     ·unfold Instr.mapUpdate;simp only [Sem.run_bind, run_underlying u1, Result.andThen_ok, hgo, hchk, hfind, hej, Option.map_some, Option.getD_some, hkey, Zeo, hso]
     ·have hmod : ∀ i e, (es.modify j fun e => { e with key := Z1k (kn != 0) l, val := vv })[i]? = some e -> ∃ e0, es[i]? = some e0 /\ e.born = e0.born /\ (i = j -> e.key = Z1k (kn != 0) l /\ e.val = vv) /\ (i ≠ j -> e = e0) := fun i e he => by
       rw [Array.getElem?_modify] at he
       split at he
       ·rename_i e3; subst e3
        obtain ⟨e0, h1, h2⟩ := Option.map_eq_some_iff.1 he;exact ⟨e0, h1, by rw [<- h2], fun _ => by rw [<- h2]; exact ⟨rfl, rfl⟩, fun h => absurd rfl h⟩
       ·rename_i e3
        exact ⟨e, he, rfl, fun h => absurd h.symm e3, fun _ => rfl⟩
      rw [hput];refine ⟨b, _, _, hμ, hw', by simp [o3], fun i e he => ?_, fun i j' e e' he he' hbb => ?_, fun i e x he hx => ?_, o7⟩
      ·obtain ⟨e0, h1, h2, -⟩ := hmod i e he;rw [h2]; exact o4 i e0 h1
      ·obtain ⟨e0, h1, h2, -⟩ := hmod i e he;obtain ⟨e0', h1', h2', -⟩ := hmod j' e' he';exact o5 i j' e0 e0' h1 h1' (by rw [<- h2, <- h2']; exact hbb)
      ·obtain ⟨e0, h1, h2, h3, h4⟩ := hmod i e he;rw [List.getElem?_set] at hx
       split at hx
       ·rename_i e5; subst e5
        split at hx
        ·cases hx
         exact ⟨(h3 rfl).1, hl, by rw [(h3 rfl).2]; exact hcv⟩
        ·cases hx
       ·rename_i e5
        rw [h4 (fun e => e5 e.symm)];exact o6 i e0 x h1 hx
   ·exact h.elim
  ·exact h.elim
 ·exact h.elim
end
end Go.Abs

namespace Go.Abs
open Go
structure Stp (F : Fz) (μ : Mu) (H : List Blk) (w : World) (F' : Fz) (μ' : Mu) (H' : List Blk) (w' : World) : Prop where
 post : Post F μ H w F' μ' H' w'
 hr : HR F' μ' H' w'
 len : H.length <= H'.length
 same : ∀ j, j < H.length -> μ' j = μ j
 mks : Mks μ H μ' H'
def setE : List (Nat × D) -> Nat -> D -> List (Nat × D)
 | [], t, d => [(t, d)]
 | (t', d') :: e, t, d => (match Nat.beq t' t with | true => (t', d) :: e | false => (t', d') :: setE e t d)
theorem Z5n : ∀ (e : List (Nat × D)) (t : Nat) (d : D) (n : Nat), Z1c (setE e t d) n = if t = n then some d else Z1c e n
 | [], t, d, n => rfl
 | (t', d') :: e, t, d, n => by
  simp only [setE]
  split
  ·rename_i h
   obtain rfl := Nat.eq_of_beq_eq_true h;simp only [Z1c]
   split <;> rfl
  ·rename_i h
   simp only [Z1c, Z5n e t d n];have hne : t' ≠ t := fun e => by subst e; rw [Nat.beq_refl] at h; cases h
   split
   ·rename_i h1; subst h1; rw [if_neg (fun e => hne e.symm)]
   ·rfl
def Z9c (e : List (Nat × D)) (dst : Option Nat) (d : D) : List (Nat × D) :=
 match dst with
 | some t => setE e t d
 | none => e
def Z36 (nt : Nat) (dst : Option Nat) : Bool :=
 match dst with
 | some t => Nat.blt t nt
 | none => true
section
variable {P : Program} {T : TT} {F F' : Fz} {μ μ' : Mu} {w w' : World} {H H' : List Blk}
theorem Stp.mono (h : Stp F μ H w F' μ' H' w') (h0 : HR F μ H w) : ∀ k x, μ k = some x -> μ' k = some x := fun k x hk => by
 rw [h.same k]; exact hk
 apply Nat.lt_of_not_le; intro hle
 rw [h0.dom k hle] at hk; cases hk
theorem Stp.keep {m : Nat} (h : Stp F μ H w F' μ' H' w') (hm : m <= H.length) : Kp m μ H μ' H' := ⟨fun i hi => h.same i (Nat.lt_of_lt_of_le hi hm), fun i _ hk => h.mks i hk⟩
theorem Stp.vr (h : Stp F μ H w F' μ' H' w') (h0 : HR F μ H w) {d : D} {v : Value} (hv : VR F μ d v) : VR F' μ' d v := hv.mono h.post.mono (h.mono h0)
theorem Stp.trans {F'' : Fz} {μ'' : Mu} {H'' : List Blk} {w'' : World} (h : Stp F μ H w F' μ' H' w') (h' : Stp F' μ' H' w' F'' μ'' H'' w'') : Stp F μ H w F'' μ'' H'' w'' :=
 ⟨h.post.trans h'.post, h'.hr, Nat.le_trans h.len h'.len, fun j hj => (h'.same j (Nat.lt_of_lt_of_le hj h.len)).trans (h.same j hj), h.mks.trans h'.mks⟩
theorem Stp.refl (h : HR F μ H w) : Stp F μ H w F μ H w := ⟨Post.refl _ _ _ _, h, Nat.le_refl _, fun _ _ => rfl, Mks.refl _ _⟩
theorem Left2.stp (h : Left2 F μ H w μ' H' w') : Stp F μ H w F μ' H' w' := ⟨h.post, h.hr, h.len, h.same, h.mks⟩
theorem Zmf {s : St} {a : Act} {dst : Option Nat} (h : ER F μ s a) (h0 : HR F μ s.H w) (hs : Stp F μ s.H w F' μ' H' w') {d : D} {v : Value} (hv : VR F' μ' d v) (hd : Z36 s.nt dst = true) {ds : List AD} {dv : List Deferred} (hds : ADR F' μ' H' ds dv) :
  ER F' μ' { env := Z9c s.env dst d, H := H', nt := s.nt, dfs := ds } ({ a with defers := dv }.put dst v) := by
 cases dst with
 | none => exact ⟨fun t x ht => let ⟨u, h1, h2⟩ := h.env t x ht; ⟨u, h1, hs.vr h0 h2⟩, h.nt, hds⟩
 | some t0 =>
  have hlt : t0 < a.tmps.size := by rw [h.nt]; exact Nat.le_of_ble_eq_true hd
  refine ⟨fun t x ht => ?_, by simp only [Act.put, Array.size_setIfInBounds]; exact h.nt, hds⟩;simp only [Z9c, Z5n] at ht;simp only [Act.put, Array.getElem?_setIfInBounds]
  split at ht
  ·rename_i e; subst e
   cases ht
   exact ⟨v, by rw [if_pos rfl, if_pos hlt], hv⟩
  ·rename_i e
   obtain ⟨u, h1, h2⟩ := h.env t x ht;exact ⟨u, by rw [if_neg e]; exact h1, hs.vr h0 h2⟩
structure OpA (P : Program) (r : Option Nat) (o : Oper) (s : St) (K : D -> List Blk -> List AD -> Prop) (X : D -> List Blk -> Prop) : Prop where
 out : ∀ F μ a w, HR F μ s.H w -> ER F μ s a -> ∀ (next : Act -> World -> Prop) (Q : Exit -> Act -> World -> Prop),
  (∀ F' μ' H' w' ds dv d v, Stp F μ s.H w F' μ' H' w' -> ADR F' μ' H' ds dv -> VR F' μ' d v -> K d H' ds -> next ({ a with defers := dv }.put o.dst v) w') ->
  (∀ F' μ' H' w' d v, Stp F μ s.H w F' μ' H' w' -> VR F' μ' d v -> X d H' -> Q (.panic [{ v := v, recovered := false }]) a w') ->
  o.uponIn (Fc r) 0 P a next Q ((o.semAt r a.eval).run P w)
variable {r : Option Nat} {o : Oper} {s : St} {K : D -> List Blk -> List AD -> Prop} {X : D -> List Blk -> Prop}
theorem Z5h : VR F μ (.tup []) undef := .cl _ _ (.tup [] #[] rfl (fun i c v h => by simp at h))
theorem Stp.adr (h : Stp F μ H w F' μ' H' w') (h0 : HR F μ H w) {l : List AD} {ds : List Deferred} (hd : ADR F μ H l ds) : ADR F' μ' H' l ds := hd.mono h.post.mono (h.mono h0) h.mks
theorem Zeg (hT : TOK P T) (h : Z1q ar T s (fun d => K d s.H s.dfs) o.op) : OpA P r o s K X := by
 refine ⟨fun F μ a w hr he next Q hn _ => ?_⟩;obtain ⟨h1, d, v, h2, h3, h4⟩ := Zez hT hr he h;rw [Oper.semAt_eq r a.eval o h1, h2, Oper.uponIn_value];exact hn F μ s.H w s.dfs _ d v (Stp.refl hr) he.dfs h3 h4
theorem Znv (hT : TOK P T) (h : Z5g ar T s (fun x mk => K (mk s.H.length) (s.H ++ [x]) s.dfs) o.op) : OpA P r o s K X := by
 refine ⟨fun F μ a w hr he next Q hn _ => ?_⟩;obtain ⟨h1, x, mk, y, ⟨hbf, sz, es, c, t, v, g1, g2, g3, g4, g5⟩, h3, h4⟩ := Zf2 (μ := μ) (w := w) hT he h;rw [Oper.semAt_eq r a.eval o h1, h3, Sem.run_bind, g2];simp only [Result.andThen_ok, Sem.run_pure, Oper.uponIn_value];have hl := Zbg hr hbf g1 g3 g4 t;exact hn F _ _ _ s.dfs _ _ v hl.stp (hl.stp.adr hr he.dfs) (g5 s.H.length _ (Z2f _ _ _)) h4
theorem Zgs (hT : TOK P T) (h : wA ar T s (fun d H' => K (d.getD (.tup [])) H' s.dfs) o.op) : OpA P r o s K X := by
 refine ⟨fun F μ a w hr he next Q hn _ => ?_⟩;obtain ⟨dst, op, type, pos, after, guard⟩ := o;simp only at h
 cases op <;> try exact h.elim
 case store t p x =>
  simp only [wA] at h
  split at h
  ·rename_i e dp dx h1 h2 h3
   obtain ⟨H', w', g1, g2, g3, g4, go, g5⟩ := Zpb (P := P) hT h1 hr (he.evo h2) (he.evo h3) h;rw [Oper.semAt_eq r a.eval _ (fun c e => by cases e)];simp only [execOp, Sem.run_bind, g1, Result.andThen_ok, Sem.run_pure, Oper.uponIn_skip];have hst : Stp F μ s.H w F μ H' w' := ⟨g3, g2, Nat.le_of_eq g4.symm, fun _ _ => rfl, fun k hk => ⟨go k _ hk, fun _ h => h⟩⟩;exact hn F μ H' w' s.dfs _ (.tup []) undef hst (hst.adr hr he.dfs) Z5h g5
  ·exact h.elim
 case makeMap t rsv =>
  cases rsv with
  | some x => exact h.elim
  | none =>
   simp only [wA] at h
   split at h
   ·rename_i kn ee hmt
    rw [Oper.semAt_eq r a.eval _ (fun c e => by cases e)];obtain ⟨q1, q2, q3⟩ := Zjj hr (x := .mp kn []) (o := .map #[] 0) (by intro e; cases e) (fun hb hm => ⟨w.heap.size, #[], 0, Z2f _ _ _, hb, rfl, fun i e he => by simp at he, fun i j e e' he => by simp at he, fun i e x he => by simp at he, fun c hc => hr.non _ (hr.dom _ (Nat.le_refl _)) c hc⟩);have hst : Stp F μ s.H w F (Z4v μ s.H.length (some (w.heap.size, 0))) (s.H ++ [.ob (.mp kn [])]) (w.alloc (.map #[] 0)) := ⟨q2, q1, by simp, fun j hj => by rw [Z2k _ (by omega)], .app _ _ _ _ _⟩;have hrun : (execOp a.eval { dst := dst, op := .makeMap t none, type := type, pos := pos, after := after, guard := guard }).run P w = .ok (.value (.map (some w.heap.size))) (w.alloc (.map #[] 0)) := by
     simp only [execOp, Instr.makeMap, Option.map_none, Sem.run_bind, Sem.run_pure, Result.andThen_ok];rfl
    rw [hrun, Oper.uponIn_value];exact hn F _ _ _ s.dfs _ (.mv s.H.length) _ hst (hst.adr hr he.dfs) (.mv _ _ _ (Z2f _ _ _)) h
   ·exact h.elim
 case insert t mm k x =>
  simp only [wA] at h
  split at h
  ·rename_i dm dk dv h1 h2 h3
   obtain ⟨w', H', g1, g2, g3⟩ := Zf5 (P := P) hT hr (he.evo h1) (he.evo h2) (he.evo h3) h;rw [Oper.semAt_eq r a.eval _ (fun c e => by cases e)];simp only [execOp, Sem.run_bind, g1, Result.andThen_ok, Sem.run_pure, Oper.uponIn_skip];exact hn F μ H' w' s.dfs _ (.tup []) undef g2.stp (g2.stp.adr hr he.dfs) Z5h g3
  ·exact h.elim
 case mapUpdate t mm k x =>
  simp only [wA] at h
  split at h
  ·rename_i dm dk dv h1 h2 h3
   obtain ⟨w', H', g1, g2, g3⟩ := Zf5 (P := P) hT hr (he.evo h1) (he.evo h2) (he.evo h3) h;rw [Oper.semAt_eq r a.eval _ (fun c e => by cases e)];simp only [execOp, Sem.run_bind, g1, Result.andThen_ok, Sem.run_pure, Oper.uponIn_skip];exact hn F μ H' w' s.dfs _ (.tup []) undef g2.stp (g2.stp.adr hr he.dfs) Z5h g3
  ·exact h.elim
 case call c =>
  obtain ⟨callee, args, argTypes⟩ := c
  cases callee with
  | value f => exact h.elim
  | invoke rr m => exact h.elim
  | builtin b =>
   cases b <;> try exact h.elim
   case append =>
    simp only [wA] at h;obtain ⟨args⟩ := args;obtain ⟨argTypes⟩ := argTypes;simp only at h
    split at h
    ·rename_i x y t t2
     split at h
     ·rename_i d1 d2 h1 h2
      obtain ⟨w', μ', H', d', v', g1, g2, g3, g4⟩ := Zme (P := P) hT hr (ty := type) (he.evo h1) (he.evo h2) h;rw [Oper.semAt_eq r a.eval _ (fun c e => by cases e)];simp only [execOp, resolve, Sem.run_bind, Sem.run_pure, Result.andThen_ok, invoke, builtin];rw [show (Array.map a.eval #[x, y]) = #[a.eval x, a.eval y] from by simp, g1];simp only [Result.andThen_ok, Sem.run_pure, Oper.uponIn_value];exact hn F μ' H' w' s.dfs _ d' v' g3.stp (g3.stp.adr hr he.dfs) g2 g4
     ·exact h.elim
    ·exact h.elim
end
end Go.Abs

namespace Go.Abs
open Go
def St.step (s : St) (dst : Option Nat) (d : D) (H : List Blk) (ds : List AD) : St := { env := Z9c s.env dst d, H := H, nt := s.nt, dfs := ds }
structure OpsA (P : Program) (r : Option Nat) (m : Nat) (ops : Array Oper) (Q : AX -> St -> Prop) (l : List Nat) (s : St) : Prop where
 out : ∀ F μ a w, RL m F μ s a w -> wpOpsIn (Fc r) 0 P ops (Z4f F μ s.H w m Q) l a w
def Zh (ops : Array Oper) (s : St) (o : Oper) (Kt Kf : St -> Prop) : Prop :=
 match o.guard with
 | none => Kt s
 | some (j, want) =>
  match ops[j]? with
  | none => Kf s
  | some oj =>
   match oj.dst with
   | none => Kf s
   | some t =>
    match Z1c s.env t with
    | some (.v (.bool b)) =>
     match want with
     | true => (match b with | true => Kt { s with env := setE s.env t (.v (.bool true)) } | false => Kf { s with env := setE s.env t (.v (.bool false)) })
     | false => (match b with | true => Kf { s with env := setE s.env t (.v (.bool true)) } | false => Kt { s with env := setE s.env t (.v (.bool false)) })
    | some (.tup []) => Kf s
    | _ => False
section
variable {P : Program} {T : TT} {r : Option Nat} {m : Nat} {ops : Array Oper} {Q : AX -> St -> Prop} {s : St}
theorem RL.step {F F' : Fz} {μ μ' : Mu} {a : Act} {w w' : World} {H' : List Blk} {dst : Option Nat} {d : D} {v : Value} {ds : List AD} {dv : List Deferred} (h : RL m F μ s a w) (hs : Stp F μ s.H w F' μ' H' w') (hds : ADR F' μ' H' ds dv) (hv : VR F' μ' d v) (hd : Z36 s.nt dst = true) :
  RL m F' μ' (s.step dst d H' ds) ({ a with defers := dv }.put dst v) w' :=
 ⟨hs.hr, Zmf h.er h.hr hs hv hd hds, Nat.le_trans h.len hs.len⟩
theorem RL.env {F : Fz} {μ : Mu} {a : Act} {w : World} {e : List (Nat × D)} (h : RL m F μ s a w) (he : ∀ t d, Z1c e t = some d -> Z1c s.env t = some d) : RL m F μ { s with env := e } a w :=
 ⟨h.hr, ⟨fun t d ht => h.er.env t d (he t d ht), h.er.nt, h.er.dfs⟩, h.len⟩
theorem Zaa {e : List (Nat × D)} {t : Nat} {d : D} (h : Z1c e t = some d) (n : Nat) (x : D) (hx : Z1c (setE e t d) n = some x) : Z1c e n = some x := by
 rw [Z5n] at hx
 split at hx
 ·rename_i e1; subst e1; cases hx; exact h
 ·exact hx
theorem Z4m {o : Oper} {Kt Kf : St -> Prop} (h : Zh ops s o Kt Kf) {F : Fz} {μ : Mu} {a : Act} (he : ER F μ s a) :
  ∃ e, (∀ t d, Z1c e t = some d -> Z1c s.env t = some d) /\ ((Region.wanted o (yielded ops a.tmps) = true /\ Kt { s with env := e }) ∨ (Region.wanted o (yielded ops a.tmps) = false /\ Kf { s with env := e })) := by
 obtain ⟨dst, op, type, pos, after, guard⟩ := o
 cases guard with
 | none => exact ⟨s.env, fun _ _ h => h, .inl ⟨rfl, h⟩⟩
 | some g =>
  obtain ⟨j, want⟩ := g;simp only [Zh] at h;simp only [Region.wanted, yielded]
  cases ho : ops[j]? with
  | none =>
   simp only [ho] at h;exact ⟨s.env, fun _ _ h => h, .inr ⟨by simp, h⟩⟩
  | some oj =>
   simp only [ho] at h
   cases hd : oj.dst with
   | none =>
    simp only [hd] at h;exact ⟨s.env, fun _ _ h => h, .inr ⟨by simp [hd], h⟩⟩
   | some t =>
    simp only [hd] at h
    split at h
    ·rename_i b hb
     obtain ⟨v, h1, h2⟩ := he.env t _ hb;obtain rfl := h2.bool;have hy : ((some oj).bind (·.dst)).bind (a.tmps[·]?) = some (.bool b) := by simp [hd, h1]
     rw [hy]
     cases want <;> cases b <;> simp only at h <;>
      first
      | exact ⟨_, fun n x hx => Zaa hb n x hx, .inl ⟨rfl, h⟩⟩
      | exact ⟨_, fun n x hx => Zaa hb n x hx, .inr ⟨rfl, h⟩⟩
    ·rename_i hb
     obtain ⟨v, h1, h2⟩ := he.env t _ hb;have hv : v = .tuple #[] := by
      cases h2 with
      | cl _ _ hc => cases hc with | tup _ vs hl _ => rw [Array.eq_empty_of_size_eq_zero hl.symm]
      | tup _ vs hl _ => rw [Array.eq_empty_of_size_eq_zero hl.symm]
     subst hv;have hy : ((some oj).bind (·.dst)).bind (a.tmps[·]?) = some (.tuple #[]) := by simp [hd, h1]
     rw [hy];exact ⟨s.env, fun _ _ h => h, .inr ⟨rfl, h⟩⟩
    ·exact h.elim
theorem Zgt {Fe : Fence} {n : Nat} {o : Oper} {a : Act} {next next' : Act -> World -> Prop} {q q' : Exit -> Act -> World -> Prop} (hn : ∀ a w, next a w -> next' a w) (hq : ∀ e a w, q e a w -> q' e a w) {x : Result Next}
  (h : o.uponIn Fe n P a next q x) : o.uponIn Fe n P a next' q' x := by
 cases x with
 | ok x w =>
  cases x <;> simp only [Oper.uponIn] at h ⊢ <;>
   first
    | exact hn _ _ h
    | exact ⟨h.1, CallsIn.mono h.2 (fun e w'' he => by cases e <;> first | exact hn _ _ he | exact hq _ _ _ he | exact (let ⟨a, w, g⟩ := he; ⟨a, w, hq _ _ _ g⟩))⟩
    | exact ⟨h.1, RowsIn.mono h.2 (fun _ _ he => hn _ _ he)⟩
    | exact ⟨h.1, RoundIn.mono h.2 (fun e w'' he => by cases e <;> first | exact hn _ _ he | exact hq _ _ _ he | exact (let ⟨a, w, g⟩ := he; ⟨a, w, hq _ _ _ g⟩))⟩
 | halt x w => cases x <;> simp only [Oper.uponIn] at h ⊢ <;> exact hq _ _ _ h
theorem Z3u {Fe : Fence} {n : Nat} {q q' : Exit -> Act -> World -> Prop} (hq : ∀ e a w, q e a w -> q' e a w) : ∀ (l : List Nat) (a : Act) (w : World), wpOpsIn Fe n P ops q l a w -> wpOpsIn Fe n P ops q' l a w
 | [], a, w, h => hq _ _ _ h
 | i :: l, a, w, h => by
  simp only [wpOpsIn] at h ⊢
  split
  ·rename_i ho; rw [ho] at h; exact Z3u hq l _ _ h
  ·rename_i o ho
   rw [ho] at h;simp only at h
   split
   ·rename_i hw; rw [if_pos hw] at h; exact ⟨h.1, Zgt (Z3u hq l) hq h.2⟩
   ·rename_i hw; rw [if_neg hw] at h; exact ⟨h.1, Z3u hq l _ _ h.2⟩
theorem Zf6 (h : Q .normal s) : OpsA P r m ops Q [] s := ⟨fun _ _ _ _ h1 => .here h1 (x := .normal) trivial h⟩
theorem Z3k {i : Nat} {l : List Nat} {o : Oper} (ho : ops[i]? = some o) (hd : Z36 s.nt o.dst = true)
  (h : Zh ops s o (fun s => OpA P r o s (fun d H' ds => OpsA P r m ops Q l (s.step o.dst d H' ds)) (fun d H' => ∀ e, (∀ t d, Z1c e t = some d -> Z1c s.env t = some d) -> Q (.pan d) { s with env := e, H := H' }))
   (fun s => OpsA P r m ops Q l (s.step o.dst (.tup []) s.H s.dfs))) : OpsA P r m ops Q (i :: l) s := by
 refine ⟨fun F μ a w h1 => ?_⟩;simp only [wpOpsIn, ho];obtain ⟨e, he, hc⟩ := Z4m h h1.er;have h1' := h1.env he;rcases hc with ⟨hw, hk⟩ | ⟨hw, hk⟩
 ·rw [if_pos hw];refine ⟨fun _ _ => trivial, hk.out F μ a w h1'.hr h1'.er _ _ (fun F' μ' H' w' ds dv d v q1 qd q2 q3 => ?_) (fun F' μ' H' w' d v q1 q2 q3 => ?_)⟩
  ·have h2 := h1'.step (ds := ds) q1 qd q2 hd;refine Z3u ?_ _ _ _ (q3.out F' μ' _ w' h2);exact fun e a w hq => hq.trans q1.post (q1.keep h1.len)
  ·exact ⟨F', μ', { s with env := e, H := H' }, .pan d, q1.post, q1.keep h1.len, ⟨q1.hr, ⟨fun t x ht => let ⟨u, g1, g2⟩ := h1'.er.env t x ht; ⟨u, g1, q1.vr h1.hr g2⟩, h1.er.nt, q1.adr h1.hr h1.er.dfs⟩,
    Nat.le_trans h1.len q1.len⟩, ⟨v, rfl, q2⟩, q3 e (fun t d h => h)⟩
 ·rw [if_neg (by rw [hw]; simp)];refine ⟨fun _ _ => trivial, ?_⟩;exact hk.out F μ _ w (h1'.step (dst := o.dst) (d := .tup []) (v := undef) (ds := s.dfs) (Stp.refl h1.hr) h1.er.dfs Z5h hd)
end
end Go.Abs

namespace Go.Abs
open Go
def Zr4 : Op -> Nat
 | .alloc _ | .box _ _ | .buildSlice _ _ _ | .makeSlice _ _ _ => 2
 | .store _ _ _ => 3
 | .call { callee := .builtin .append, .. } => 3
 | .call { callee := .builtin .len, .. } => 1
 | .call { callee := .builtin .max, .. } => 1
 | .call { callee := .builtin .min, .. } => 1
 | .call _ => 0
 | .mapUpdate _ _ _ _ | .insert _ _ _ _ => 3
 | .makeMap _ r => (match r with | none => 3 | some _ => 0)
 | .defer _ | .go _ | .panic _ | .range _ _ | .next _ _ | .entry _ | .mapEntry _ _ _ | .entryStore _ _ _ _ => 0
 | .ready _ | .waits _ | .sliceToArrayPointer _ _ | .makeChan _ _ | .send _ _ | .recv _ _ _ | .select _ _ => 0
 | _ => 1
def Z4h (A : Ar) (T : TT) (ops : Array Oper) (K : List Nat -> St -> Prop) : List Nat -> St -> Prop
 | [], s => K [] s
 | i :: l, s =>
  match ops[i]? with
  | none => False
  | some o =>
   match Zr4 o.op, Z36 s.nt o.dst with
   | 1, true => Zh ops s o (fun s => Z1q A T s (fun d => Z4h A T ops K l (s.step o.dst d s.H s.dfs)) o.op) (fun s => Z4h A T ops K l (s.step o.dst (.tup []) s.H s.dfs))
   | 2, true => Zh ops s o (fun s => Z5g A T s (fun x mk => Z4h A T ops K l (s.step o.dst (mk s.H.length) (s.H ++ [x]) s.dfs)) o.op) (fun s => Z4h A T ops K l (s.step o.dst (.tup []) s.H s.dfs))
   | 3, true => Zh ops s o (fun s => wA A T s (fun d H' => Z4h A T ops K l (s.step o.dst (d.getD (.tup [])) H' s.dfs)) o.op) (fun s => Z4h A T ops K l (s.step o.dst (.tup []) s.H s.dfs))
   | _, _ => K (i :: l) s
section
variable {P : Program} {T : TT} {r : Option Nat} {m : Nat} {ops : Array Oper} {Q : AX -> St -> Prop}
theorem Z53 {s : St} {o : Oper} {Kt Kf Kt' Kf' : St -> Prop} (h : Zh ops s o Kt Kf) (ht : ∀ e, Kt { s with env := e } -> Kt' { s with env := e }) (hf : ∀ e, Kf { s with env := e } -> Kf' { s with env := e }) : Zh ops s o Kt' Kf' := by
 have h0 : Kt s -> Kt' s := ht s.env;have h1 : Kf s -> Kf' s := hf s.env;unfold Zh at h ⊢
 split at h
 ·exact h0 h
 ·split at h
  ·exact h1 h
  ·split at h
   ·exact h1 h
   ·split at h
    ·split at h <;> split at h <;> first | exact ht _ h | exact hf _ h
    ·exact h1 h
    ·exact h.elim
theorem OpA.mono {o : Oper} {s : St} {K K' : D -> List Blk -> List AD -> Prop} {X X' : D -> List Blk -> Prop} (h : OpA P r o s K X) (hk : ∀ d H ds, K d H ds -> K' d H ds) (hx : ∀ d H, X d H -> X' d H) : OpA P r o s K' X' :=
 ⟨fun F μ a w hr he next Q hn hp => h.out F μ a w hr he next Q (fun F' μ' H' w' ds dv d v h1 h1' h2 h3 => hn F' μ' H' w' ds dv d v h1 h1' h2 (hk _ _ _ h3)) (fun F' μ' H' w' d v h1 h2 h3 => hp F' μ' H' w' d v h1 h2 (hx _ _ h3))⟩
theorem Zbh {id : Nat} {s : St} (h : OpsA P r m ops Q (List.range ops.size) s) : WpA P r m (.region id ops false) Q s :=
 ⟨fun F μ a w h1 => wpIn_region (h.out F μ a w h1)⟩
end
end Go.Abs

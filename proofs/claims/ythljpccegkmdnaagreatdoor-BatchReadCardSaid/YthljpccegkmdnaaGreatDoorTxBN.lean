/- Part TxBN of the proofs about the benches of the accordion maker: see the last text of the claim for what is proved. -/
import Derived.Test.YthljpccegkmdnaaGreatDoorTxBK
import Derived.Test.YthljpccegkmdnaaGreatDoorTxBJ
import Derived.Test.YthljpccegkmdnaaGreatDoorTxBL
set_option linter.unusedVariables false
set_option linter.unusedSimpArgs false
set_option linter.unnecessarySimpa false
set_option linter.constructorNameAsVariable false

namespace Go.Txt
open Go Go.Batch
def Z1ke (c : UInt8) : List By -> By
 | [] => []
 | [a] => a
 | a :: b :: r => a ++ c :: Z1ke c (b :: r)
theorem Z1kj {c : UInt8} : ∀ {l : List By}, l ≠ [] -> (∀ x ∈ l, c ∉ x) -> Z1gn c (Z1ke c l) = l
 | [], h, _ => absurd rfl h
 | [a], _, h => Z1hi (h a (by simp))
 | a :: b :: r, _, h => by
  rw [Z1ke, Z1hj (h a (by simp)), Z1kj (by simp) (fun x hx => h x (List.mem_cons_of_mem _ hx))]
theorem Z1kg (c : UInt8) : ∀ l : By, Z1ke c (Z1gn c l) = l
 | [] => rfl
 | b :: r => by
  have ih := Z1kg c r;simp only [Z1gn]
  split
  ·rename_i e
   cases h : Z1gn c r with
   | nil => exact absurd h (Z1h7 c r)
   | cons x xs => rw [h] at ih; rw [Z1ke, ih, e]; rfl
  ·split
   ·rename_i h; exact absurd h (Z1h7 c r)
   ·rename_i l ls h
    rw [h] at ih
    cases ls with
    | nil => simp only [Z1ke] at ih ⊢; rw [ih]
    | cons y ys => simp only [Z1ke, List.cons_append] at ih ⊢; rw [ih]
theorem Z1kk (c : UInt8) : ∀ l : By, ∀ x ∈ Z1gn c l, c ∉ x
 | [], x, hx => by simp [Z1gn] at hx; subst hx; simp
 | b :: r, x, hx => by
  simp only [Z1gn] at hx
  split at hx
  ·rcases List.mem_cons.1 hx with rfl | hx
   ·simp
   ·exact Z1kk c r x hx
  ·rename_i e
   split at hx
   ·rename_i h; exact absurd h (Z1h7 c r)
   ·rename_i l ls h
    rcases List.mem_cons.1 hx with rfl | hx
    ·have := Z1kk c r l (by rw [h]; simp);simp [this]; exact fun h => e h.symm
    ·exact Z1kk c r x (by rw [h]; simp [hx])
def Z1kh (l : List By) : By := l.flatMap fun x => x ++ [10]
theorem Z1km {l : List By} (h : ∀ x ∈ l, (10 : UInt8) ∉ x) : Z1gn 10 (Z1kh l) = l ++ [[]] := by
 induction l with
 | nil => rfl
 | cons a l ih =>
  have e : Z1kh (a :: l) = a ++ 10 :: Z1kh l := by simp [Z1kh]
  rw [e, Z1hj (h a (by simp)), ih fun x hx => h x (List.mem_cons_of_mem _ hx)]; rfl
theorem Z1ks {t : By} (h : (Z1gn 10 t).getLast? = some []) : t = Z1kh (Z1gn 10 t).dropLast := by
 obtain ⟨l, hl⟩ : ∃ l, Z1gn 10 t = l ++ [[]] := by
  rw [List.getLast?_eq_some_iff] at h;exact h
 rw [hl, List.dropLast_concat];have e := Z1km (l := l) (fun x hx => Z1kk 10 t x (by rw [hl]; simp [hx]));have := congrArg (Z1ke 10) (hl.trans e.symm);rw [Z1kg, Z1kg] at this;exact this
theorem Z1l7 (u : Nat) : ∀ c ∈ Lib.decDigits u, dig c = true := by
 induction u using Nat.strongRecOn with
 | _ u ih =>
  intro c hc;rw [Lib.decDigits] at hc
  split at hc
  ·rw [List.mem_singleton] at hc; subst hc; exact Z1gp.2 (by rw [toNat_of (by omega)]; omega)
  ·rw [List.mem_append] at hc;rcases hc with hc | hc
   ·exact ih (u / 10) (by omega) c hc
   ·rw [List.mem_singleton] at hc; subst hc; exact Z1gp.2 (by rw [toNat_of (by omega)]; omega)
theorem Z1ki {n : Int} (h0 : 0 <= n) {c : UInt8} (hc : dig c = false) : c ∉ Lib.itoa n := by
 unfold Lib.itoa;rw [if_neg (by omega)];intro h;have := Z1l7 _ c h;rw [this] at hc; cases hc
def Z1kd (m : Mv) : List By :=
 if m.kind = 2 then [outW, Lib.itoa m.bin, Z1hg m.inst, Lib.itoa m.lo, Lib.itoa m.hi]
 else [if m.kind = 1 then inW else Z1h0, Lib.itoa m.bin, Lib.itoa m.lo, Lib.itoa m.hi]
theorem Z1kx {m : Mv} (h1 : 1 <= m.kind) (h3 : m.kind <= 3) : Z1gu m = Z1ke 124 (Z1kd m) ++ [10] := by
 unfold Z1gu Z1gz Z1kd
 by_cases a : m.kind = 1
 ·rw [if_pos a, if_neg (by omega), if_pos a]; simp [Z1ke]
 ·by_cases b : m.kind = 3
  ·rw [if_neg a, if_pos b, if_neg (by omega), if_neg a]; simp [Z1ke]
  ·rw [if_neg a, if_neg b, if_pos (by omega)]; simp [Z1ke]
theorem Z1ky {m : Mv} (h : Small m) (hi : m.kind = 2 -> -1 <= m.inst) {c : UInt8} (hc : dig c = false) (h63 : c ≠ 63) (hw : c ∉ outW /\ c ∉ inW /\ c ∉ Z1h0) : ∀ x ∈ Z1kd m, c ∉ x := by
 have n1 := Z1ki h.b0 hc;have n2 := Z1ki h.l0 hc;have n3 := Z1ki h.h0 hc;intro x hx;unfold Z1kd at hx
 split at hx
 ·rename_i hk
  have n4 : c ∉ Z1hg m.inst := by
   unfold Z1hg; split
   ·simpa using h63
   ·exact Z1ki (by omega) hc
  simp only [List.mem_cons, List.not_mem_nil, or_false] at hx;rcases hx with rfl | rfl | rfl | rfl | rfl
  ·exact hw.1
  ·exact n1
  ·exact n4
  ·exact n2
  ·exact n3
 ·simp only [List.mem_cons, List.not_mem_nil, or_false] at hx;rcases hx with rfl | rfl | rfl | rfl
  ·split
   ·exact hw.2.1
   ·exact hw.2.2
  ·exact n1
  ·exact n2
  ·exact n3
theorem Z1kt {j : Jn} {m : Mv} (ho : MOk j m) (h : Small m) (hj : j.ins <= 4) : Z1gq (Z1kd m) = some m := by
 have a1 := Z1j2 h.b0 (by have := h.b1; omega);have a2 := Z1j2 h.l0 (by have := h.l1; omega);have a3 := Z1j2 h.h0 (by have := h.h1; omega);have k1 := ho.k1;have k3 := ho.k3;obtain ⟨kd, bi, it, lo, hi⟩ := m;dsimp only at a1 a2 a3 k1 k3;unfold Z1kd
 by_cases e2 : kd = 2
 ·have i0 := ho.i0 e2;have i1 := ho.i1 e2;dsimp only at i0 i1;have hi : Z1h4 (Z1hg it) = some it := by
   unfold Z1h4 Z1hg
   by_cases hn : it < 0
   ·rw [if_pos hn, if_pos rfl]; congr 1; omega
   ·rw [if_neg hn, Z1j2 (by omega) (by omega), if_neg];intro e;exact Z1ki (n := it) (by omega) (c := 63) (by decide) (by rw [e]; simp)
  rw [if_pos e2];simp only [Z1gq, hi, a1, a2, a3, mk3, if_pos rfl, e2];rfl
 ·rw [if_neg e2];have i2 := ho.i2 e2;dsimp only at i2
  by_cases e1 : kd = 1
  ·rw [if_pos e1];simp only [Z1gq, a1, a2, a3, mk3, e1, i2];rfl
  ·have e3 : kd = 3 := by omega
   rw [if_neg e1];simp only [Z1gq, a1, a2, a3, mk3, e3, i2];rfl
theorem Z1l4 {w : List By} {m : Mv} (h : Z1gq w = some m) : Z1kd m = w /\ 1 <= m.kind /\ m.kind <= 3 := by
 have k3 : ∀ {k i : Int} {a b c : Option Int} {m : Mv}, mk3 k i a b c = some m -> ∃ x y z, a = some x /\ b = some y /\ c = some z /\ m = ⟨k, x, i, y, z⟩ := fun {k i a b c m} h => by
  unfold mk3 at h
  split at h
  ·cases h; exact ⟨_, _, _, rfl, rfl, rfl, rfl⟩
  ·cases h
 match w, h with
 | [w0, w1, w2, w3], h =>
  simp only [Z1gq] at h
  split at h
  ·rename_i e
   obtain ⟨x, y, z, h1, h2, h3, rfl⟩ := k3 h;refine ⟨?_, show (1 : Int) <= 1 by decide, show (1 : Int) <= 3 by decide⟩;simp only [Z1kd];rw [(Z1h2 h1).2.2.1, (Z1h2 h2).2.2.1, (Z1h2 h3).2.2.1, e]; rfl
  ·split at h
   ·rename_i e
    obtain ⟨x, y, z, h1, h2, h3, rfl⟩ := k3 h;refine ⟨?_, show (1 : Int) <= 3 by decide, show (3 : Int) <= 3 by decide⟩;simp only [Z1kd];rw [(Z1h2 h1).2.2.1, (Z1h2 h2).2.2.1, (Z1h2 h3).2.2.1, e]; rfl
   ·cases h
 | [w0, w1, w2, w3, w4], h =>
  simp only [Z1gq] at h
  split at h
  ·rename_i e
   split at h
   ·rename_i i hi
    obtain ⟨x, y, z, h1, h2, h3, rfl⟩ := k3 h;refine ⟨?_, show (1 : Int) <= 2 by decide, show (2 : Int) <= 3 by decide⟩;have hiw : Z1hg i = w2 := by
     unfold Z1h4 at hi;unfold Z1hg
     split at hi
     ·rename_i e2; cases hi; rw [if_pos (by decide), e2]
     ·rw [if_neg (by have := (Z1h2 hi).1; omega)]; exact (Z1h2 hi).2.2.1
    simp only [Z1kd];rw [(Z1h2 h1).2.2.1, (Z1h2 h2).2.2.1, (Z1h2 h3).2.2.1, hiw, e]; rfl
   ·cases h
  ·cases h
def Z1kf (n : Int) (fs : List Bool) : List By := [Z1h1, Lib.itoa n, Z1h5 fs]
theorem Z1kz (j : Jn) : Z1gt j = Z1ke 124 (Z1kf j.ins j.first) ++ [10] := by unfold Z1gt Z1kf; simp [Z1ke]
theorem Z1kp (fs : List Bool) : ∀ x ∈ Z1h5 fs, x = 102 ∨ x = 97 := fun x hx => by
 obtain ⟨b, -, rfl⟩ := List.mem_map.1 hx
 cases b
 ·exact .inr rfl
 ·exact .inl rfl
theorem Z1ku (fs : List Bool) : (Z1h5 fs).map (fun x => decide (x = 102)) = fs := by
 unfold Z1h5;rw [List.map_map]
 conv => rhs; rw [<- List.map_id fs]
 exact List.map_congr_left fun b _ => by cases b <;> rfl
theorem Z1l0 {w : By} (h : ∀ x ∈ w, x = 102 ∨ x = 97) : Z1h5 (w.map fun x => decide (x = 102)) = w := by
 unfold Z1h5;rw [List.map_map]
 conv => rhs; rw [<- List.map_id w]
 exact List.map_congr_left fun x hx => by rcases h x hx with rfl | rfl <;> rfl
theorem Z1kv {n : Int} (h0 : 0 <= n) (h1 : n <= 999) (fs : List Bool) : Z1gx (Z1kf n fs) = some (n, fs) := by
 unfold Z1kf;simp only [Z1gx];rw [if_pos ⟨trivial, Z1kp fs⟩, Z1j2 h0 h1, Z1ku]; rfl
theorem Z1l5 {w : List By} {n : Int} {fs : List Bool} (h : Z1gx w = some (n, fs)) : Z1kf n fs = w := by
 match w, h with
 | [w0, w1, w2], h =>
  simp only [Z1gx] at h
  split at h
  ·rename_i e
   cases hn : numB w1 with
   | none => rw [hn] at h; cases h
   | some v =>
    rw [hn] at h; cases h;unfold Z1kf;rw [(Z1h2 hn).2.2.1, Z1l0 e.2, e.1]
  ·cases h
theorem Z1ko {n : Int} (h0 : 0 <= n) (fs : List Bool) {c : UInt8} (hc : dig c = false) (hw : c ∉ Z1h1) (h2 : c ≠ 102) (h3 : c ≠ 97) : ∀ x ∈ Z1kf n fs, c ∉ x := fun x hx => by
 simp only [Z1kf, List.mem_cons, List.not_mem_nil, or_false] at hx;rcases hx with rfl | rfl | rfl
 ·exact hw
 ·exact Z1ki h0 hc
 ·intro h;rcases Z1kp fs c h with e | e
  ·exact h2 e
  ·exact h3 e
theorem Z1kr {c d : UInt8} (hd : d ≠ c) : ∀ {l : List By}, (∀ x ∈ l, d ∉ x) -> d ∉ Z1ke c l
 | [], _ => by simp [Z1ke]
 | [a], h => h a (by simp)
 | a :: b :: r, h => by
  have h1 := h a (by simp);have h2 := Z1kr hd (l := b :: r) fun x hx => h x (List.mem_cons_of_mem _ hx);simp only [Z1ke, List.mem_append, List.mem_cons, not_or];exact ⟨h1, hd, h2⟩
def allW (j : Jn) : List By := Z1ke 124 (Z1kf j.ins j.first) :: (j.moves.map fun m => Z1ke 124 (Z1kd m)) ++ [endW]
theorem Z1kl {j : Jn} (h : ∀ m ∈ j.moves, 1 <= m.kind /\ m.kind <= 3) : Z1hr j = Z1kh (allW j) := by
 have e : ∀ l : List Mv, (∀ m ∈ l, 1 <= m.kind /\ m.kind <= 3) -> l.flatMap Z1gu = Z1kh (l.map fun m => Z1ke 124 (Z1kd m)) := fun l hl => by
  induction l with
  | nil => rfl
  | cons m l ih =>
   have h1 := hl m (by simp);rw [List.flatMap_cons, ih fun x hx => hl x (List.mem_cons_of_mem _ hx), Z1kx h1.1 h1.2];simp [Z1kh]
 unfold Z1hr allW;rw [e _ h, Z1kz];simp [Z1kh]
theorem Z1kq {n : Int} {fs : List Bool} : ∀ (l : List Mv) (k : Nat) (ms : List Mv) (r : List By), 1 <= k -> (∀ m ∈ l, Z1gq (Z1kd m) = some m) -> (∀ m ∈ l, ∀ x ∈ Z1kd m, (124 : UInt8) ∉ x) ->
  rdL k false ⟨n, fs, ms⟩ ((l.map fun m => Z1ke 124 (Z1kd m)) ++ r) = rdL (k + l.length) false ⟨n, fs, ms ++ l⟩ r
 | [], k, ms, r, _, _, _ => by simp
 | m :: l, k, ms, r, hk, h, hn => by
  have hs : Z1gn 124 (Z1ke 124 (Z1kd m)) = Z1kd m := Z1kj (by unfold Z1kd; split <;> simp) (hn m (by simp));have he : Z1ke 124 (Z1kd m) ≠ endW := by
   intro e;have : Z1kd m = Z1gn 124 endW := by rw [<- hs, e]
   rw [show Z1gn 124 endW = [endW] from rfl] at this;have h1 := congrArg List.length this;unfold Z1kd at h1
   split at h1 <;> simp at h1
  rw [List.map_cons, List.cons_append, Z1ip hk he (by rw [hs]; exact h m (by simp)), Z1kq l (k + 1) (ms ++ [m]) r (by omega) (fun x hx => h x (List.mem_cons_of_mem _ hx)) (fun x hx => hn x (List.mem_cons_of_mem _ hx))];simp only [List.length_cons, List.append_assoc, List.singleton_append]
  congr 1
  omega
theorem Z1l1 {j : Jn} (h0 : Zr j = 0) : Z1gv (Z1hr j) = (j, 0, 0) := by
 have hok := Z2r h0;have hi1 := hok.i1;have hi4 := hok.i4;have hsm := fun m hm => Z1h8 hok (m := m) hm;have hk := fun m (hm : m ∈ j.moves) => (⟨(hok.mv m hm).k1, (hok.mv m hm).k3⟩ : 1 <= m.kind /\ m.kind <= 3);have no := fun (c : UInt8) (hc : dig c = false) (h63 : c ≠ 63) (hw : c ∉ outW /\ c ∉ inW /\ c ∉ Z1h0) m (hm : m ∈ j.moves) => Z1ky (hsm m hm) (hok.mv m hm).i0 hc h63 hw;have n124 := no 124 (by decide) (by decide) (by decide);have n10 := no 10 (by decide) (by decide) (by decide);have hlines : ∀ x ∈ allW j, (10 : UInt8) ∉ x := fun x hx => by
  simp only [allW, List.cons_append, List.mem_cons, List.mem_append, List.mem_map, List.not_mem_nil, or_false] at hx;rcases hx with rfl | ⟨m, hm, rfl⟩ | rfl
  ·exact Z1kr (by decide) (Z1ko (by omega) _ (by decide) (by decide) (by decide) (by decide))
  ·exact Z1kr (by decide) (n10 m hm)
  ·decide
 have hsp : Z1gn 10 (Z1hr j) = allW j ++ [[]] := by rw [Z1kl hk, Z1km hlines]
 have hlen : ¬ 300 < (Z1hr j).length := by
  have a : (Z1gt j).length <= 14 := by
   have a := Z1l6 (n := j.ins) (by omega) (by omega);have b := hok.f2;have c := Z1hc j.first;unfold Z1gt;rw [a];simp [Z1h1]; omega
  have b := Z1hk (l := j.moves) hsm;have c := hok.m10;have d : endW.length = 3 := rfl;have e : ([10] : By).length = 1 := rfl;show ¬ 300 < (Z1gt j ++ j.moves.flatMap Z1gu ++ endW ++ [10]).length;rw [List.length_append, List.length_append, List.length_append]; omega
 refine Z1iq hlen ?_ (by rw [hsp]; simp) h0;rw [hsp, List.dropLast_concat];unfold allW;rw [List.cons_append, Z1io (n := j.ins) (fs := j.first) (by rw [Z1kj (by simp [Z1kf]) (Z1ko (by omega) _ (by decide) (by decide) (by decide) (by decide))]; exact Z1kv (by omega) (by omega) _)];rw [Z1kq j.moves 1 [] [endW] (Nat.le_refl _) (fun m hm => Z1kt (hok.mv m hm) (hsm m hm) hi4) n124, Z1jd (by omega) rfl];simp [rdL]
theorem Z1kw : ∀ (ls : List By) (k : Nat) (j j' : Jn), 1 <= k -> rdL k false j ls = .inl (true, j') ->
  ∃ l : List Mv, ls = (l.map fun m => Z1ke 124 (Z1kd m)) ++ [endW] /\ j' = ⟨j.ins, j.first, j.moves ++ l⟩ /\ ∀ m ∈ l, 1 <= m.kind /\ m.kind <= 3
 | [], k, j, j', _, h => by simp [rdL] at h
 | x :: ls, k, j, j', hk, h => by
  by_cases e : x = endW
  ·rw [Z1jd hk e] at h
   cases ls with
   | nil => simp only [rdL] at h; cases h; exact ⟨[], by simp [e], by simp, by simp⟩
   | cons y ls => rw [Z1jc] at h; cases h
  ·cases hm : Z1gq (Z1gn 124 x) with
   | none => rw [Z1ic hk e hm] at h; cases h
   | some m =>
    rw [Z1ip hk e hm] at h;obtain ⟨l, h1, h2, h3⟩ := Z1kw ls (k + 1) _ j' (by omega) h;obtain ⟨i1, i2, i3⟩ := Z1l4 hm;refine ⟨m :: l, ?_, by rw [h2]; simp, fun y hy => ?_⟩
    ·rw [h1, List.map_cons, i1, Z1kg]; rfl
    ·rcases List.mem_cons.1 hy with rfl | hy
     ·exact ⟨i2, i3⟩
     ·exact h3 y hy
theorem Z1l2 {t : By} {j : Jn} {l : Int} (h : Z1gv t = (j, l, 0)) : Zr j = 0 /\ Z1hr j = t := by
 unfold Z1gv at h
 split at h
 ·cases h
 ·split at h
  ·cases h
  ·rename_i e j' hr
   split at h
   ·cases h
   ·rename_i hc
    have he : e = true := by cases e with
     | true => rfl
     | false => exact absurd (.inl rfl) hc
    have hl : (Z1gn 10 t).getLast? = some [] := Decidable.not_not.1 fun g => hc (.inr g)
    split at h
    ·rename_i h9; have := congrArg (fun x => x.2.2) h; exact absurd this h9
    ·rename_i h9
     cases h
     subst he;refine ⟨Decidable.not_not.1 h9, ?_⟩;have ht := Z1ks hl
     cases hd : (Z1gn 10 t).dropLast with
     | nil => rw [hd] at hr; cases hr
     | cons x ls =>
      rw [hd] at hr ht
      cases hh : Z1gx (Z1gn 124 x) with
      | none => rw [Z1ib hh] at hr; cases hr
      | some p =>
       obtain ⟨n, fs⟩ := p;rw [Z1io hh] at hr;obtain ⟨ms, h1, h2, h3⟩ := Z1kw ls 1 _ j (Nat.le_refl _) hr;have hx : Z1ke 124 (Z1kf n fs) = x := by rw [Z1l5 hh, Z1kg]
       rw [ht, h1, h2, <- hx];exact Z1kl h3
end Go.Txt

namespace Go.Proofs.YthljpccegkmdnaaGreatDoor
open Go Go.Abs Go.Proofs Go.Batch Go.Txt
theorem Z1l8 {ins : Int} {first : List Bool} {ms : List Mv} {lies : List Int} {truth : List (Int × List Int)} (hi1 : 1 <= ins) (hi4 : ins <= 4) (hfl : first.length = 1 ∨ first.length = 2) (hm10 : ms.length <= 10) (hg : Gen ins first ms lies truth) : Zr ⟨ins, first, ms⟩ = 0 :=
 Z81 (hg.jok hi1 hi4 (by omega) (by omega) hm10)
theorem wkEq {d d' : D} (h : d = d') : WkD d d' := h ▸ .rfl
set_option maxRecDepth 40000 in
set_option maxHeartbeats 16000000 in
theorem Z1l3 (L : List D) (nums : List Int) (hL : L = nums.map I) (hl : L.length <= 9223372036854775807) (t : By) (Q) (hq : Q (RA.ret (.v (.bool true))) []) :
  CallA Tryz.prog 7 [.sl 1 L, tD t] [] Q := by
 obtain ⟨A, hA⟩ : ∃ A, A = ar := ⟨_, rfl⟩;have nne : ∀ x, A.cmp .neq x x = false := fun x => by subst hA; simp [ar, Z25]
 have bT : A.bnot true = false := by subst hA; rfl
 have e00 : A.cmp .eql 0 0 = true := by subst hA; rfl
 refine Z5 Z0 hA Tryz.func7 rfl rfl rfl rfl rfl fun S hS => ?_;cbv;refine bm (fun c1 => ?_) (fun c1 => ?_)
 ·cbv;refine Z4 hS [] [] [] rfl rfl rfl rfl rfl rfl rfl rfl (by decide) trivial (Zov _ ?_);refine Z3 Z0 hA hS ?_;cbv;exact Z2 [] (by decide) Z9 (H' := []) (d' := .v (.bool true)) trivial rfl (Z1 hq)
 clear c1;cbv;refine Z4 hS [.sl 1 L] [] [] rfl rfl rfl rfl rfl rfl rfl rfl (by decide) trivial (Zvp L nums hL hl _ fun x0 => ?_);refine Z3 Z0 hA hS ?_;cbv;refine Z4 hS [.b 0 0, I 10, I 3] [0] [pot x0] rfl rfl rfl rfl rfl rfl rfl rfl (by decide) ⟨rfl, trivial⟩ (Znd x0 10 3 (by decide) ⟨by decide, by decide⟩ _ fun ins first mm lies truth x1 F1 M1 TL RL hi1 hi4 hfl hm10 hmm hg _ hF1 hM1 hT hR => ?_);have hc0 := Z1l8 hi1 hi4 hfl hm10 hg;obtain ⟨j2, hj2⟩ : ∃ j2 : Jn, j2 = ⟨ins, first, mm⟩ := ⟨_, rfl⟩;rw [<- hj2] at hc0;have e2i : j2.ins = ins := by rw [hj2]
 obtain ⟨W, hW⟩ : ∃ W, W = Z1hr j2 := ⟨_, rfl⟩;have hw2 : wrJ j2 = (W, 0) := by unfold wrJ; rw [if_pos hc0, hW]
 have wk := fun Q h => Z1ir j2 (by rw [hj2]; show first.length <= _; omega) (by rw [hj2]; show mm.length <= _; omega) F1 M1 (by rw [hj2]; exact hF1) (by rw [hj2]; exact hM1) W 0 hw2 ins e2i Q h;have hv : RdV W ins 0 0 F1 M1 := ⟨j2, by rw [hW]; exact Z1l1 hc0, e2i, by rw [hj2]; exact hF1, by rw [hj2]; exact hM1⟩;have vk := fun Q h => Z1k1 hv Q h;have vs := fun Q h => Z1kc hv Q h;obtain ⟨n, l, e, FR, MR, hu⟩ := rdV t;have uk := fun Q h => Z1k1 hu Q h;have hwr : e = 0 -> ∀ Q, Q (RA.ret (.tup [tD t, I 0])) [] -> CallA Tryz.prog 29 [.agg [I n, .sl 1 FR, .sl 5 MR]] [] Q := fun he Q hq => by
  subst he;obtain ⟨j, h1, h2, h3, h4⟩ := hu.out;have hlim := Z1je t;rw [h1] at hlim;obtain ⟨c0, hwt⟩ := Z1l2 h1;exact Z1ir j (Nat.le_trans hlim.1 (by decide)) (Nat.le_trans hlim.2 (by decide)) FR MR h3 h4 t 0 (by unfold wrJ; rw [if_pos c0, hwt]) n h2 Q hq
 have sq : A.seq (bs t) (bs t) = true := by rw [yseq hA]; simp
 clear hg hi1 hi4 hfl hm10 hmm hF1 hM1 hT hR hj2 hc0 hW hw2 e2i hv hu;refine Z3 Z0 hA hS ?_;cbv;refine Z4 hS [.agg [I ins, .sl 1 F1, .sl 5 M1]] [] [] rfl rfl rfl rfl rfl rfl rfl rfl (by decide) trivial (wk _ ?_);refine Z3 Z0 hA hS ?_;cbv;refine Z4 hS [.v (.string (bs W))] [] [] rfl rfl rfl rfl rfl rfl rfl rfl (by decide) trivial (vk _ ?_);refine Z3 Z0 hA hS ?_;cbv;refine bmF (nne 0) ?_;cbv;refine bmF (nne 0) ?_;cbv;refine bmF (nne 0) ?_;cbv;refine Zg hS (b := false) rfl rfl rfl rfl rfl rfl rfl rfl (fun _ => ⟨[], _, [.agg [I ins, .sl 1 F1, .sl 5 M1], .agg [I ins, .sl 1 F1, .sl 5 M1]], [], [], rfl, rfl, rfl, by decide, trivial, vs _ ?_⟩) (fun e => absurd rfl e);refine Z3 Z0 hA hS ?_;cbv;refine bmF bT ?_;cbv;refine Z4 hS [.v (.string (bs t))] [] [] rfl rfl rfl rfl rfl rfl rfl rfl (by decide) trivial (uk _ ?_);refine Z3 Z0 hA hS ?_
 by_cases he : e = 0
 ·have wr := hwr he;subst he;clear hwr uk;cbv;refine bmF (nne 0) ?_;cbv;refine Z4 hS [.agg [I n, .sl 1 FR, .sl 5 MR]] [] [] rfl rfl rfl rfl rfl rfl rfl rfl (by decide) trivial (wr _ ?_);refine Z3 Z0 hA hS ?_;cbv;refine bmT e00 ?_;cbv;refine Z26 hS (Zo7 77 (.v (.bool true)) rfl (wkEq (congrArg (fun b => D.v (.bool b)) sq)) (Z7 ?_));refine Zg hS (b := true) rfl rfl rfl rfl rfl rfl rfl rfl (fun _ => ⟨[], _, [], [], [], rfl, rfl, rfl, by decide, trivial, Zov _ ?_⟩) (fun e => absurd rfl e);refine Z3 Z0 hA hS ?_;cbv;exact Z2 [] (by decide) Z9 (H' := []) (d' := .v (.bool true)) trivial rfl (Z1 hq)
 ·have ce : A.cmp .neq e 0 = true := by subst hA; simp [ar, Z25, he]
  clear hwr uk;cbv;refine bmT ce ?_;cbv;refine Z4 hS [] [] [] rfl rfl rfl rfl rfl rfl rfl rfl (by decide) trivial (Zov _ ?_);refine Z3 Z0 hA hS ?_;cbv;exact Z2 [] (by decide) Z9 (H' := []) (d' := .v (.bool true)) trivial rfl (Z1 hq)
end Go.Proofs.YthljpccegkmdnaaGreatDoor

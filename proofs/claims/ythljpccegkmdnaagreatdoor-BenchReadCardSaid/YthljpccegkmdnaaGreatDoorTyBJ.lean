/- Part TyBJ of the proofs about the benches of the accordion maker: see the last text of the claim for what is proved. -/
import Derived.Test.YthljpccegkmdnaaGreatDoorTyBA
import Derived.Test.YthljpccegkmdnaaGreatDoorTyBE
import Derived.Test.YthljpccegkmdnaaGreatDoorTyBH
set_option linter.unusedVariables false
set_option linter.unusedSimpArgs false
set_option linter.unnecessarySimpa false
set_option linter.constructorNameAsVariable false

namespace Go.Txt
open Go
open Go.Proofs.YthljpccegkmdnaaGreatDoor.Bn (Sh Tk Wk Val Za5 chkS_val Z1cw)
theorem Z1mv (c : UInt8) : ∀ (l : List By) (a : By), Z1ke c (a :: l) = a ++ l.flatMap (fun x => c :: x)
 | [], a => by simp [Z1ke]
 | b :: r, a => by
  show a ++ c :: Z1ke c (b :: r) = _;rw [Z1mv c r b]; simp
def Z1lm (w : Wk) : By := Lib.itoa w.b ++ 58 :: (Lib.itoa w.lo ++ 45 :: Lib.itoa w.hi)
theorem Z1nv (w : Wk) : Z1m3 w = 32 :: Z1lm w := by unfold Z1m3 Z1lm; simp
structure NumW (w : Wk) : Prop where
 b : 0 <= w.b /\ w.b <= 999
 lo : 0 <= w.lo /\ w.lo <= 999
 hi : 0 <= w.hi /\ w.hi <= 999
theorem Z1p1 {w : Wk} (h : NumW w) : Z1ld (Z1lm w) = some w := by
 unfold Z1lm;rw [Z1ny (Z1ki h.b.1 (by decide)) (Z1ki h.lo.1 (by decide)), Z1j2 h.b.1 h.b.2, Z1j2 h.lo.1 h.lo.2, Z1j2 h.hi.1 h.hi.2];rfl
theorem Z1ps {w : Wk} (h : NumW w) {c : UInt8} (hc : dig c = false) (h1 : c ≠ 58) (h2 : c ≠ 45) : c ∉ Z1lm w := by
 have n1 := Z1ki h.b.1 hc;have n2 := Z1ki h.lo.1 hc;have n3 := Z1ki h.hi.1 hc;unfold Z1lm;intro hx;rcases List.mem_append.1 hx with hx | hx
 ·exact n1 hx
 ·rcases List.mem_cons.1 hx with hx | hx
  ·exact h1 hx
  ·rcases List.mem_append.1 hx with hx | hx
   ·exact n2 hx
   ·rcases List.mem_cons.1 hx with hx | hx
    ·exact h2 hx
    ·exact n3 hx
theorem Z1ph {p : By} {w : Wk} (h : Z1ld p = some w) : Z1lm w = p := by
 unfold Z1ld at h;have j1 := Z1kg 58 p
 match hp : Z1gn 58 p, h with
 | [a, r], h =>
  dsimp only at h;have j2 := Z1kg 45 r
  match hq : Z1gn 45 r, h with
  | [b, c], h =>
   dsimp only at h;rw [hp] at j1;rw [hq] at j2
   cases h1 : numB a with
   | none => rw [h1] at h; cases h
   | some x =>
    cases h2 : numB b with
    | none => rw [h1, h2] at h; cases h
    | some y =>
     cases h3 : numB c with
     | none => rw [h1, h2, h3] at h; cases h
     | some z =>
      rw [h1, h2, h3] at h; cases h;unfold Z1lm;dsimp only;rw [(Z1h2 h1).2.2.1, (Z1h2 h2).2.2.1, (Z1h2 h3).2.2.1, <- j1, <- j2];rfl
theorem Z1mw : ∀ {l : List Wk}, (∀ w ∈ l, NumW w) -> Z1l9 (l.map Z1lm) = some l
 | [], _ => rfl
 | w :: l, h => by
  simp only [List.map_cons, Z1l9];rw [Z1p1 (h w (by simp)), Z1mw fun x hx => h x (List.mem_cons_of_mem _ hx)]
theorem Z1n5 : ∀ {ps : List By} {l : List Wk}, Z1l9 ps = some l -> l.map Z1lm = ps
 | [], l, h => by simp only [Z1l9] at h; cases h; rfl
 | p :: ps, l, h => by
  simp only [Z1l9] at h
  cases hx : Z1ld p with
  | none => rw [hx] at h; cases h
  | some y =>
   cases hs : Z1l9 ps with
   | none => rw [hx, hs] at h; cases h
   | some ys => rw [hx, hs] at h; cases h; rw [List.map_cons, Z1ph hx, Z1n5 hs]
def Z1lc (t : Tk) : List By := ordW :: Lib.itoa t.ready :: Lib.itoa t.due :: t.works.map Z1lm
structure NumT (t : Tk) : Prop where
 rd : 0 <= t.ready /\ t.ready <= 999
 du : 0 <= t.due /\ t.due <= 999
 wk : ∀ w ∈ t.works, NumW w
theorem Z1nw (t : Tk) : Z1le t = Z1ke 32 (Z1lc t) ++ [10] := by
 have e : ∀ l : List Wk, l.flatMap Z1m3 = (l.map Z1lm).flatMap (fun x => 32 :: x) := fun l => by
  induction l with
  | nil => rfl
  | cons w l ih => rw [List.flatMap_cons, ih, Z1nv]; rfl
 unfold Z1le Z1lc;rw [Z1mv, List.flatMap_cons, List.flatMap_cons, e];simp
theorem Z1p2 {t : Tk} (h : NumT t) : Z1li (Z1lc t) = some t := by
 unfold Z1lc;rw [Z1na rfl, Z1j2 h.rd.1 h.rd.2, Z1j2 h.du.1 h.du.2, Z1mw h.wk];rfl
theorem Z1p7 {t : Tk} (h : NumT t) {c : UInt8} (hc : dig c = false) (h1 : c ≠ 58) (h2 : c ≠ 45) (h3 : c ∉ ordW) : ∀ x ∈ Z1lc t, c ∉ x := fun x hx => by
 simp only [Z1lc, List.mem_cons, List.mem_map] at hx;rcases hx with rfl | rfl | rfl | ⟨w, hw, rfl⟩
 ·exact h3
 ·exact Z1ki h.rd.1 hc
 ·exact Z1ki h.du.1 hc
 ·exact Z1ps (h.wk w hw) hc h1 h2
theorem Z1pi {w : List By} {t : Tk} (h : Z1li w = some t) : Z1lc t = w := by
 match w, h with
 | w0 :: w1 :: w2 :: ps, h =>
  simp only [Z1li] at h
  split at h
  ·rename_i e
   cases h1 : numB w1 with
   | none => rw [h1] at h; cases h
   | some x =>
    cases h2 : numB w2 with
    | none => rw [h1, h2] at h; cases h
    | some y =>
     cases h3 : Z1l9 ps with
     | none => rw [h1, h2, h3] at h; cases h
     | some z =>
      rw [h1, h2, h3] at h; cases h;unfold Z1lc;dsimp only;rw [(Z1h2 h1).2.2.1, (Z1h2 h2).2.2.1, Z1n5 h3, e]
  ·cases h
def Z1lj (n : Int) : List By := [benW, Lib.itoa n]
theorem Z1ni (s : Sh) : Z1lb s = Z1ke 32 (Z1lj s.benches) ++ [10] := by unfold Z1lb Z1lj; simp [Z1ke]
theorem Z1p3 {n : Int} (h0 : 0 <= n) (h1 : n <= 999) : Z1ln (Z1lj n) = some n := by unfold Z1lj; rw [Z1mq rfl, Z1j2 h0 h1]
theorem Z1pj {w : List By} {n : Int} (h : Z1ln w = some n) : Z1lj n = w := by
 match w, h with
 | [w0, w1], h =>
  simp only [Z1ln] at h
  split at h
  ·rename_i e
   unfold Z1lj;rw [(Z1h2 h).2.2.1, e]
  ·cases h
theorem Z1p8 {n : Int} (h0 : 0 <= n) {c : UInt8} (hc : dig c = false) (hw : c ∉ benW) : ∀ x ∈ Z1lj n, c ∉ x := fun x hx => by
 simp only [Z1lj, List.mem_cons, List.not_mem_nil, or_false] at hx;rcases hx with rfl | rfl
 ·exact hw
 ·exact Z1ki h0 hc
def allS (s : Sh) : List By := Z1ke 32 (Z1lj s.benches) :: (s.tasks.map fun t => Z1ke 32 (Z1lc t)) ++ [Z1lf]
theorem Z1ma (s : Sh) : Z1ll s = Z1kh (allS s) := by
 have e : ∀ l : List Tk, l.flatMap Z1le = Z1kh (l.map fun t => Z1ke 32 (Z1lc t)) := fun l => by
  induction l with
  | nil => rfl
  | cons t l ih => rw [List.flatMap_cons, ih, Z1nw]; simp [Z1kh]
 unfold Z1ll allS;rw [e, Z1ni];simp [Z1kh]
theorem Z1n6 {n : Int} : ∀ (l : List Tk) (k : Nat) (ts : List Tk) (r : List By), 1 <= k -> (∀ t ∈ l, NumT t) ->
  rdS k false ⟨n, ts⟩ ((l.map fun t => Z1ke 32 (Z1lc t)) ++ r) = rdS (k + l.length) false ⟨n, ts ++ l⟩ r
 | [], k, ts, r, _, _ => by simp
 | t :: l, k, ts, r, hk, h => by
  have ht := h t (by simp);have hs : Z1gn 32 (Z1ke 32 (Z1lc t)) = Z1lc t := Z1kj (by simp [Z1lc]) (Z1p7 ht (by decide) (by decide) (by decide) (by decide));have he : Z1ke 32 (Z1lc t) ≠ Z1lf := by
   intro e;have : Z1lc t = Z1gn 32 Z1lf := by rw [<- hs, e]
   rw [show Z1gn 32 Z1lf = [Z1lf] from rfl] at this;have h1 := congrArg List.length this;simp [Z1lc] at h1
  rw [List.map_cons, List.cons_append, Z1mi hk he (by rw [hs]; exact Z1p2 ht), Z1n6 l (k + 1) (ts ++ [t]) r (by omega) (fun x hx => h x (List.mem_cons_of_mem _ hx))];simp only [List.length_cons, List.append_assoc, List.singleton_append]
  congr 1
  omega
theorem Z1nj {s : Sh} (h0 : Za5 s = 0) : Z1lg (Z1ll s) = (s, 0, 0) := by
 have hv := chkS_val h0;have hn := Z1n9 hv;have hT : ∀ t ∈ s.tasks, NumT t := fun t ht => ⟨hn.rd t ht, hn.du t ht, fun w hw => ⟨(hn.wk t ht w hw).1, (hn.wk t ht w hw).2.1, (hn.wk t ht w hw).2.2⟩⟩;have hlines : ∀ x ∈ allS s, (10 : UInt8) ∉ x := fun x hx => by
  simp only [allS, List.cons_append, List.mem_cons, List.mem_append, List.mem_map, List.not_mem_nil, or_false] at hx;rcases hx with rfl | ⟨t, ht, rfl⟩ | rfl
  ·exact Z1kr (by decide) (Z1p8 hn.b.1 (by decide) (by decide))
  ·exact Z1kr (by decide) (Z1p7 (hT t ht) (by decide) (by decide) (by decide) (by decide))
  ·decide
 have hsp : Z1gn 10 (Z1ll s) = allS s ++ [[]] := by rw [Z1ma, Z1km hlines]
 have hlen : ¬ 300 < (Z1ll s).length := by
  have a := Z1m0 hv s.tasks.length;have d : Z1lf.length = 6 := rfl;have e : ([10] : By).length = 1 := rfl;rw [List.take_length] at a;show ¬ 300 < (Z1lb s ++ s.tasks.flatMap Z1le ++ Z1lf ++ [10]).length;rw [List.length_append, List.length_append]; omega
 refine Z1mn hlen ?_ (by rw [hsp]; simp) h0;rw [hsp, List.dropLast_concat];unfold allS;rw [List.cons_append, Z1mh (n := s.benches) (by rw [Z1kj (by simp [Z1lj]) (Z1p8 hn.b.1 (by decide) (by decide))]; exact Z1p3 hn.b.1 hn.b.2)];rw [Z1n6 s.tasks 1 [] [Z1lf] (Nat.le_refl _) hT, Z1n8 (by omega) rfl];simp [rdS]
theorem Z1nk : ∀ (ls : List By) (k : Nat) (s s' : Sh), 1 <= k -> rdS k false s ls = .inl (true, s') ->
  ∃ l : List Tk, ls = (l.map fun t => Z1ke 32 (Z1lc t)) ++ [Z1lf] /\ s' = ⟨s.benches, s.tasks ++ l⟩
 | [], k, s, s', _, h => by simp [rdS] at h
 | x :: ls, k, s, s', hk, h => by
  by_cases e : x = Z1lf
  ·rw [Z1n8 hk e] at h
   cases ls with
   | nil => simp only [rdS] at h; cases h; exact ⟨[], by simp [e], by simp⟩
   | cons y ls => rw [Z1nn] at h; cases h
  ·cases hm : Z1li (Z1gn 32 x) with
   | none => rw [Z1mk hk e hm] at h; cases h
   | some t =>
    rw [Z1mi hk e hm] at h;obtain ⟨l, h1, h2⟩ := Z1nk ls (k + 1) _ s' (by omega) h;refine ⟨t :: l, ?_, by rw [h2]; simp⟩;rw [h1, List.map_cons, Z1pi hm, Z1kg]; rfl
theorem Z1nl {t : By} {s : Sh} {l : Int} (h : Z1lg t = (s, l, 0)) : Za5 s = 0 /\ Z1ll s = t := by
 unfold Z1lg at h
 split at h
 ·cases h
 ·split at h
  ·cases h
  ·rename_i e s' hr
   split at h
   ·cases h
   ·rename_i hc
    have he : e = true := by cases e with
     | true => rfl
     | false => exact absurd (.inl rfl) hc
    have hl : (Z1gn 10 t).getLast? = some [] := Decidable.not_not.1 fun g => hc (.inr g)
    split at h
    ·rename_i h9; have := congrArg (fun x => x.2.2) h; exact absurd this h9
    ·rename_i h9
     cases h
     subst he;refine ⟨Decidable.not_not.1 h9, ?_⟩;have ht := Z1ks hl
     cases hd : (Z1gn 10 t).dropLast with
     | nil => rw [hd] at hr; cases hr
     | cons x ls =>
      rw [hd] at hr ht
      cases hh : Z1ln (Z1gn 32 x) with
      | none => rw [Z1mj hh] at hr; cases hr
      | some n =>
       rw [Z1mh hh] at hr;obtain ⟨ts, h1, h2⟩ := Z1nk ls 1 _ s (Nat.le_refl _) hr;have hx : Z1ke 32 (Z1lj n) = x := by rw [Z1pj hh, Z1kg]
       rw [ht, h1, h2, <- hx];exact Z1ma _
end Go.Txt

namespace Go.Proofs.YthljpccegkmdnaaGreatDoor
open Go Go.Abs Go.Proofs Go.Txt
open Bn (Sh Tk Wk Z14x Z14z Za5 Val)
set_option maxRecDepth 40000 in
set_option maxHeartbeats 16000000 in
theorem Z1nx (L : List D) (nums : List Int) (hL : L = nums.map I) (hl : L.length <= 9223372036854775807) (t : By) (Q) (hq : Q (RA.ret (.v (.bool true))) []) :
  CallA Tryz.prog 5 [.sl 1 L, tD t] [] Q := by
 obtain ⟨A, hA⟩ : ∃ A, A = ar := ⟨_, rfl⟩;have nne : ∀ x, A.cmp .neq x x = false := fun x => by subst hA; simp [ar, Z25]
 have bT : A.bnot true = false := by subst hA; rfl
 have e00 : A.cmp .eql 0 0 = true := by subst hA; rfl
 refine Z5 Z0 hA Tryz.func5 rfl rfl rfl rfl rfl fun S hS => ?_;cbv;refine bm (fun c1 => ?_) (fun c1 => ?_)
 ·cbv;refine Z4 hS [] [] [] rfl rfl rfl rfl rfl rfl rfl rfl (by decide) trivial (Bn.filing _ ?_);refine Z3 Z0 hA hS ?_;cbv;exact Z2 [] (by decide) Z9 (H' := []) (d' := .v (.bool true)) trivial rfl (Z1 hq)
 clear c1;cbv;refine Z4 hS [.sl 1 L] [] [] rfl rfl rfl rfl rfl rfl rfl rfl (by decide) trivial (Zvp L nums hL hl _ fun x0 => ?_);refine Z3 Z0 hA hS ?_;cbv;refine Z4 hS [.b 0 0, I 4, I 8] [0] [pot x0] rfl rfl rfl rfl rfl rfl rfl rfl (by decide) ⟨rfl, trivial⟩ (Z1o2 x0 _ fun s2 n2 T2 x1 hs2 hn2 hT2 hc0 => ?_);obtain ⟨W, hW⟩ : ∃ W, W = Z1ll s2 := ⟨_, rfl⟩;have hw2 : wrS s2 = (W, 0) := by unfold wrS; rw [if_pos hc0, hW]
 have wk := fun Q h => Z1ir s2 hs2 T2 hT2 W 0 hw2 n2 hn2 Q h;have hv : RvS W n2 0 0 T2 := ⟨s2, by rw [hW]; exact Z1nj hc0, hn2, hT2⟩;have vk := fun Q h => Z1k1 hv Q h;have vs := fun Q h => Z1p6 hv Q h;obtain ⟨n, l, e, TR, hu⟩ := rvS t;have uk := fun Q h => Z1k1 hu Q h;have hwr : e = 0 -> ∀ Q, Q (RA.ret (.tup [tD t, I 0])) [] -> CallA Tryz.prog 37 [.agg [I n, .sl 3 TR]] [] Q := fun he Q hq => by
  subst he;obtain ⟨s, h1, h2, h3⟩ := hu.out;have hlim := Z1n4 t;rw [h1] at hlim;obtain ⟨c0, hwt⟩ := Z1nl h1;exact Z1ir s hlim TR h3 t 0 (by unfold wrS; rw [if_pos c0, hwt]) n h2 Q hq
 have sq : A.seq (bs t) (bs t) = true := by rw [yseq hA]; simp
 clear hs2 hn2 hT2 hc0 hW hw2 hv hu;refine Z3 Z0 hA hS ?_;cbv;refine Z4 hS [.agg [I n2, .sl 3 T2]] [] [] rfl rfl rfl rfl rfl rfl rfl rfl (by decide) trivial (wk _ ?_);refine Z3 Z0 hA hS ?_;cbv;refine Z4 hS [.v (.string (bs W))] [] [] rfl rfl rfl rfl rfl rfl rfl rfl (by decide) trivial (vk _ ?_);refine Z3 Z0 hA hS ?_;cbv;refine bmF (nne 0) ?_;cbv;refine bmF (nne 0) ?_;cbv;refine bmF (nne 0) ?_;cbv;refine Zg hS (b := false) rfl rfl rfl rfl rfl rfl rfl rfl (fun _ => ⟨[], _, [.agg [I n2, .sl 3 T2], .agg [I n2, .sl 3 T2]], [], [], rfl, rfl, rfl, by decide, trivial, vs _ ?_⟩) (fun e => absurd rfl e);refine Z3 Z0 hA hS ?_;cbv;refine bmF bT ?_;cbv;refine Z4 hS [.v (.string (bs t))] [] [] rfl rfl rfl rfl rfl rfl rfl rfl (by decide) trivial (uk _ ?_);refine Z3 Z0 hA hS ?_
 by_cases he : e = 0
 ·have wr := hwr he;subst he;clear hwr uk;cbv;refine bmF (nne 0) ?_;cbv;refine Z4 hS [.agg [I n, .sl 3 TR]] [] [] rfl rfl rfl rfl rfl rfl rfl rfl (by decide) trivial (wr _ ?_);refine Z3 Z0 hA hS ?_;cbv;refine bmT e00 ?_;cbv;refine Z26 hS (Zo7 71 (.v (.bool true)) rfl (wkEq (congrArg (fun b => D.v (.bool b)) sq)) (Z7 ?_));refine Zg hS (b := true) rfl rfl rfl rfl rfl rfl rfl rfl (fun _ => ⟨[], _, [], [], [], rfl, rfl, rfl, by decide, trivial, Bn.filing _ ?_⟩) (fun e => absurd rfl e);refine Z3 Z0 hA hS ?_;cbv;exact Z2 [] (by decide) Z9 (H' := []) (d' := .v (.bool true)) trivial rfl (Z1 hq)
 ·have ce : A.cmp .neq e 0 = true := by subst hA; simp [ar, Z25, he]
  clear hwr uk;cbv;refine bmT ce ?_;cbv;refine Z4 hS [] [] [] rfl rfl rfl rfl rfl rfl rfl rfl (by decide) trivial (Bn.filing _ ?_);refine Z3 Z0 hA hS ?_;cbv;exact Z2 [] (by decide) Z9 (H' := []) (d' := .v (.bool true)) trivial rfl (Z1 hq)
end Go.Proofs.YthljpccegkmdnaaGreatDoor

/- Part SlpA of the proofs about the benches of the accordion maker: see the last text of the claim for what is proved. -/
import Derived.Test.YthljpccegkmdnaaGreatDoorRunT
set_option linter.unusedVariables false
set_option linter.unusedSimpArgs false
set_option linter.unnecessarySimpa false
set_option linter.constructorNameAsVariable false

namespace Go.Batch
theorem Z8r {ν : Type} {j : Jn} {tk : Tk ν} {bins : List Int} {l l' : List Nat} : ∀ (ms : List Mv) (i b : Nat) (now now' : List (Ste ν)), (∀ s ∈ now, s ∈ now') ->
  (∀ k m, ms[k]? = some m -> (i + k ∈ l -> i + k ∈ l') /\ (i + k ∈ l' -> m.kind = 3)) -> ∀ s ∈ Z2u j tk bins (Zu l ms i) b now, s ∈ Z2u j tk bins (Zu l' ms i) b now'
 | [], i, b, now, now', hn, _, s, hs => hn s hs
 | m :: ms, i, b, now, now', hn, h, s, hs => by
  have h0 := h 0 m rfl;rw [Nat.add_zero] at h0;have hk : ∀ k m', ms[k]? = some m' -> (i + 1 + k ∈ l -> i + 1 + k ∈ l') /\ (i + 1 + k ∈ l' -> m'.kind = 3) := fun k m' hm => by
   have := h (k + 1) m' (by simpa using hm)
   rwa [show i + (k + 1) = i + 1 + k by omega] at this
  simp only [Zu] at hs ⊢
  by_cases h1 : i ∈ l
  ·rw [if_pos h1] at hs;rw [if_pos (h0.1 h1)];exact Z8r ms (i + 1) b now now' hn hk s hs
  ·rw [if_neg h1] at hs
   by_cases h2 : i ∈ l'
   ·rw [if_pos h2];have hm := h0.2 h2;simp only [Z2u] at hs;rw [if_neg (by omega)] at hs;refine Z8r ms (i + 1) b _ now' (fun y hy => ?_) hk s hs;obtain ⟨z, hz, hy⟩ := List.mem_flatMap.1 hy;unfold Z22 at hy;rw [if_neg (by omega), if_neg (by omega)] at hy
    split at hy
    ·simp at hy; subst hy; exact hn _ hz
    ·simp at hy
   ·rw [if_neg h2];simp only [Z2u] at hs ⊢;refine Z8r ms (i + 1) _ _ _ (fun y hy => ?_) hk s hs;obtain ⟨z, hz, hy⟩ := List.mem_flatMap.1 hy;exact List.mem_flatMap.2 ⟨z, hn z hz, hy⟩
theorem Z9y {l : List Nat} : ∀ (ms : List Mv) (i : Nat), (∀ k m, ms[k]? = some m -> i + k ∈ l -> m.kind = 3) -> Z6 (Zu l ms i) = Z6 ms
 | [], i, _ => rfl
 | m :: ms, i, h => by
  have h0 := h 0 m rfl;rw [Nat.add_zero] at h0;have ih := Z9y (l := l) ms (i + 1) fun k m' hm hk => h (k + 1) m' (by simpa using hm) (by rwa [show i + (k + 1) = i + 1 + k by omega]);simp only [Zu]
  by_cases h1 : i ∈ l
  ·rw [if_pos h1, ih, Z2b, if_neg (by have := h0 h1; omega)]
  ·rw [if_neg h1, Z2b, Z2b, ih]
theorem Ze4 : ∀ (ms : List Mv) (i n : Nat), n ∈ Z1h ms i -> i <= n /\ ∃ m, ms[n - i]? = some m /\ m.kind = 3
 | [], i, n, h => by simp [Z1h] at h
 | m :: ms, i, n, h => by
  simp only [Z1h] at h;have key : n ∈ Z1h ms (i + 1) -> i <= n /\ ∃ m', (m :: ms)[n - i]? = some m' /\ m'.kind = 3 := fun h => by
   obtain ⟨h1, m', h2, h3⟩ := Ze4 ms (i + 1) n h;refine ⟨by omega, m', ?_, h3⟩;rw [show n - i = (n - (i + 1)) + 1 by omega, List.getElem?_cons_succ]; exact h2
  split at h
  ·rename_i hm
   rcases List.mem_cons.1 h with e | h
   ·subst e; exact ⟨Nat.le_refl _, m, by simp, hm⟩
   ·exact key h
  ·exact key h
theorem Zkv {j : Jn} {l l' : List Nat} (h' : ∀ n ∈ l', n ∈ Zp j) (h : ∀ n ∈ l, n ∈ l') (hs : Zc (Z12 j l) = true) : Zc (Z12 j l') = true := by
 have hk : ∀ k m, j.moves[k]? = some m -> (0 + k ∈ l -> 0 + k ∈ l') /\ (0 + k ∈ l' -> m.kind = 3) := fun k m hm => ⟨fun g => h _ g, fun g => by
  obtain ⟨-, m', h1, h2⟩ := Ze4 j.moves 0 (0 + k) (h' _ g)
  rw [show 0 + k - 0 = k by omega, hm] at h1
  cases h1; exact h2⟩
 have e1 := Z9y (l := l) j.moves 0 fun k m hm hk' => (hk k m hm).2 ((hk k m hm).1 hk');have e2 := Z9y (l := l') j.moves 0 fun k m hm hk' => (hk k m hm).2 hk';have hne := Zoo hs
 cases e : Zd (Z12 j l) Z1f [] with
 | nil => exact absurd e hne
 | cons y r =>
  have hy : y ∈ Zd (Z12 j l) Z1f [] := by rw [e]; simp
  refine Zh8 (j := Z12 j l') (x := y) ?_;unfold Zd Z12 at hy ⊢;simp only [e1] at hy;simp only [e2];rw [Zcl (j := { j with moves := Zu l j.moves 0 }) (j' := j) rfl rfl] at hy;rw [Zcl (j := { j with moves := Zu l' j.moves 0 }) (j' := j) rfl rfl];exact Z8r j.moves 0 0 _ _ (fun s h => h) hk y hy
theorem Z1ef {j : Jn} (h : Zc (Z12 j (Zp j)) = false) : Z6c j = none := by
 unfold Z6c;rw [List.find?_eq_none];intro x hx hs;unfold Z9t at hx;obtain ⟨k, -, hx⟩ := List.mem_flatMap.1 hx;have := Zkv (j := j) (fun n h => h) (fun n hn => (Z1e8 _ _ x hx).2 n hn) hs;rw [h] at this; cases this
end Go.Batch

namespace Go.Batch
theorem Zcr : ∀ (ms : List Mv) (i : Nat), Zu [] ms i = ms
 | [], _ => rfl
 | m :: ms, i => by simp only [Zu, Zcr ms (i + 1)]; rw [if_neg (by simp)]
theorem Ziz (j : Jn) : Z12 j [] = j := by unfold Z12; rw [Zcr]
theorem Zkw {j : Jn} (hs : Zc j = true) : Z6c j = some [] /\ Zc (Z12 j (Zp j)) = true := by
 have h0 : Zc (Z12 j []) = true := by rw [Ziz]; exact hs
 refine ⟨?_, Zkv (fun n h => h) (fun n h => by simp at h) h0⟩;exact (Zsm j).hit (Nat.zero_le _) (show (Zw (Zp j) 0)[0]? = some [] by cases Zp j <;> rfl) h0
end Go.Batch

namespace Go.Proofs.YthljpccegkmdnaaGreatDoor
open Go Go.Abs Go.Proofs Go.Batch
set_option maxRecDepth 20000 in
set_option maxHeartbeats 4000000 in
theorem Ztc (j : Jn) (hf : j.first.length <= 1152921504606846976) (hm : j.moves.length <= 1152921504606846976) (FL ML : List D) (hF : FL = j.first.map Zv) (hM : ML = j.moves.map mvD) (Q)
  (he : ∀ e, e = Zr j -> e ≠ 0 -> Q (RA.ret (.tup [.v (.slice none 0 0), I e])) []) (hp : JOk j -> Zc j = false -> Q (RA.ret (.tup [.v (.slice none 0 0), I 9])) [])
  (hq : JOk j -> Zc j = true -> ∀ L, L = (Z6g j).map rgD -> Q (RA.ret (.tup [.sl 2 L, I 0])) []) :
  CallA Tryz.prog 12 [.agg [I j.ins, .sl 1 FL, .sl 5 ML]] [] Q := by
 obtain ⟨A, hA⟩ : ∃ A, A = ar := ⟨_, rfl⟩;have hFl : FL.length = j.first.length := by rw [hF, List.length_map]
 refine Z5 Z0 hA Tryz.func12 rfl rfl rfl rfl rfl fun S hS => ?_;cbv;refine Z4 hS [.agg [I j.ins, .sl 1 FL, .sl 5 ML], .fn 51 []] [] [] rfl rfl rfl rfl rfl rfl rfl rfl (by decide) trivial (Zdj j hf hm Zn 51 [] Z73 FL ML hF hM _ (fun e1 he1 hne => ?_) (fun hj ents hme hne => ?_) (fun hj h0 => ?_))
 ·have hz := he e1 he1 hne;have hc : A.cmp .neq e1 0 = true := by subst hA; simpa [ar, Z25] using hne
  refine Z3 Z0 hA hS ?_;cbv;refine bm (fun _ => ?_) (fun c => Bool.noConfusion (hc.symm.trans c));cbv;exact Z2 [] (by decide) Z9 (H' := []) (d' := .tup [.v (.slice none 0 0), I e1]) trivial rfl (Z1 hz)
 rotate_left
 ·have hz := hp hj (Z3y h0);have hc : A.cmp .neq 9 0 = true := by subst hA; rfl
  refine Z3 Z0 hA hS ?_;cbv;refine bmT hc ?_;cbv;exact Z2 [] (by decide) Z9 (H' := []) (d' := .tup [.v (.slice none 0 0), I 9]) trivial rfl (Z1 hz)
 have hf2 := hj.f2;have hm10 := hj.m10;have hst : Zc j = true := (Z28 j Zn).2 hne;have hq := fun L hL => hq hj hst L hL;have hc : A.cmp .neq 0 0 = false := by subst hA; rfl
 have hsok : ∀ s ∈ Zd j Zn 0, StOk s := fun s hs => by rw [<- Z66] at hs; exact Z8s Zfo hj _ s hs
 obtain ⟨N, hN⟩ : ∃ N, N = j.first.length := ⟨_, rfl⟩;rw [<- hN] at hFl hf2;obtain ⟨g, hg⟩ : ∃ g : Nat -> Int × Int, g = fun n : Nat => Zs ((Zd j Zn 0).map fun s => inL n (Z6 j.moves) s.1) := ⟨_, rfl⟩;have hrest : Z74 g N = (Z6g j).map rgD := by rw [Z74, hg, hN]; rfl
 refine Z3 Z0 hA hS ?_;cbv;refine bmF hc ?_;cbv;refine Z4 hS [.agg [I j.ins, .sl 1 FL, .sl 5 ML], .fn 51 []] [] [] rfl rfl rfl rfl rfl rfl rfl rfl (by decide) trivial (Zhe j (by omega) FL ML hM 51 [] (.inl rfl) _ fun BL hBL => ?_);refine Z3 Z0 hA hS ?_;cbv;refine Zb hS ?_;refine Za (α := Int × Nat × List D) (fun q => { env := [(4, .mv 0), (6, .cb (.agg [I j.ins, .sl 1 FL, .sl 5 ML, .sl 1 BL, .fn 51 []]) 0), (7, .o 1 2 q.2.1), (21, I (A.oi (A.len FL))), (22, I q.1)], H := [.ob (.mp 5 ents), .els 2 q.2.2], nt := 33, dfs := [] })
  (fun q => N - q.2.1) (fun q => q.2.1 <= N /\ IsI q.1 q.2.1 /\ q.2.2 = Z74 g q.2.1) (0, 0, []) ⟨Nat.zero_le _, ⟨rfl⟩, rfl⟩ ?_ ?_
 ·refine Z1a hA [2] ?_;cbv;refine Z2a 7 2 rfl ?_;exact Zf [1, 3] ⟨by decide, Z9, ⟨rfl, rfl, trivial⟩, ⟨rfl, rfl, rfl, rfl, rfl, trivial⟩, rfl, rfl⟩
 rintro ⟨i, k, L⟩ ⟨u1, u2, u3⟩;dsimp only at u1 u2 u3;have hLl : L.length = k := by rw [u3]; simp [Z74]
 have hsu := Zao g k;obtain ⟨lo, hlo⟩ : ∃ lo, lo = (g k).1 := ⟨_, rfl⟩;obtain ⟨hi, hhi⟩ : ∃ hi, hi = (g k).2 := ⟨_, rfl⟩;rw [<- hlo, <- hhi] at hsu;have hie := u2.eq;have hlo' : lo = (Zs ((Zd j Zn 0).map fun s => inL i (Z6 j.moves) s.1)).1 := by rw [hlo, hg, hie]
 have hhi' : hi = (Zs ((Zd j Zn 0).map fun s => inL i (Z6 j.moves) s.1)).2 := by rw [hhi, hg, hie]
 have hk6 : k <= 1000000 := by omega
 have hnum := Zvi j.ins (Z6 j.moves) hj.b4 i FL ML BL hBL 51 [] (.inl rfl);refine Zi Z0 hA hS ?_;cbv;refine bm (fun c => ?_) (fun c => ?_)
 ·have hk : k < N := Z31 hA hFl u2 c;have hf1 := Zy hA u2 (by omega);have hu2 := Zz hA u2;have hms : N - (k + 1) < N - k := by omega
  have hL2 : A.app L [.agg [I lo, I hi]] = Z74 g (k + 1) := by rw [Z33 hA, hsu, u3]
  have hn2 : A.addN k 1 = k + 1 := Z2e hA _ _;cbv;refine Z26 hS (Z1a hA [2] ?_);cbv;refine Z7 ?_;refine Z4 hS [.mv 0, .fn 54 [.cb (.agg [I j.ins, .sl 1 FL, .sl 5 ML, .sl 1 BL, .fn 51 []]) 0, .cb (I i) 0]] [0] [.ob (.mp 5 ents)] rfl rfl rfl rfl rfl rfl rfl rfl (by decide) ⟨rfl, trivial⟩ (Zcu ents _ hme hne hsok 54 _ _ hnum lo hi hlo' hhi' _ ?_);refine Z3 Z0 hA hS ?_;cbv;refine ⟨Ze hA hLl, Ze hA rfl, Z27 hA hk6 (by decide), hf1, ?_⟩;refine Z8 (A.add i 1, k + 1, A.app L [.agg [I lo, I hi]]) [0, 4] ⟨hk, hu2, hL2⟩ hms ?_;exact ⟨by decide, Z9, ⟨rfl, rfl, trivial⟩, ⟨rfl, rfl, by rw [<- hn2]; rfl, rfl, rfl, trivial⟩, rfl, rfl⟩
 ·have hk : k = N := by have := Z21 hA hFl u2 c; omega
  have hz2 := hq L (by rw [u3, hk, hrest]);cbv;refine Z7 ?_;cbv;refine Z1w [1] ?_;cbv;exact ⟨by cases L <;> exact hLl.symm, Z2 [] (by decide) Z9 (H' := []) (d' := .tup [.sl 2 L, I 0]) trivial rfl (Z1 hz2)⟩
theorem Zyh (j : Jn) (hj : JOk j) (hst : Zc j = true) (FL ML : List D) (hF : FL = j.first.map Zv) (hM : ML = j.moves.map mvD) (Q) (hq : ∀ L, L = (Z6g j).map rgD -> Q (RA.ret (.tup [.sl 2 L, I 0])) []) :
  CallA Tryz.prog 12 [.agg [I j.ins, .sl 1 FL, .sl 5 ML]] [] Q :=
 Ztc j (lim (by have := hj.f2; omega)) (lim (by have := hj.m10; omega)) FL ML hF hM Q (fun e h1 h2 => Z77 (Z81 hj) h1 h2) (fun _ g => Z7p hst g) (fun _ _ => hq)
section
variable {j : Jn} {ins : Int} {N n m : Nat} {FL ML : List D}
theorem MdJ.left (h : MdJ j ins N n m FL ML) (Q) (hq : ∀ L, L = (Z6g j).map rgD -> Q (RA.ret (.tup [.sl 2 L, I 0])) []) : CallA Tryz.prog 12 [.agg [I ins, .sl 1 FL, .sl 5 ML]] [] Q := by
 have e := h.ie;subst e;exact Zyh j h.ok h.st FL ML h.F h.M Q hq
theorem MdJ.wrong (h : MdJ j ins N n m FL ML) (Q) (hq : Q (RA.ret (.tup [.sl 1 [], I 0])) []) : CallA Tryz.prog 25 [.agg [I ins, .sl 1 FL, .sl 5 ML]] [] Q := by
 have e := h.ie;subst e;obtain ⟨w1, w2⟩ := Zkw h.st;exact Zt2 j h.fl h.ml FL ML h.F h.M Q (fun e h1 h2 => Z77 h.c0 h1 h2) (fun _ g => by rw [w2] at g; cases g) (fun _ _ c hc L hL => by
  rw [w1] at hc; cases hc
  subst hL; exact hq)
end
end Go.Proofs.YthljpccegkmdnaaGreatDoor

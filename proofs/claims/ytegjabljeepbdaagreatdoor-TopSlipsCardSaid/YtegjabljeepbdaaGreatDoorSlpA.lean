/- Part SlpA of the proofs about the benches of the accordion maker: see the last text of the claim for what is proved. -/
import Derived.Test.YtegjabljeepbdaaGreatDoorRunT
import Derived.Test.YtegjabljeepbdaaGreatDoorRunV
import Derived.Test.YtegjabljeepbdaaGreatDoorRunO
set_option linter.unusedVariables false
set_option linter.unusedSimpArgs false
set_option linter.unnecessarySimpa false
set_option linter.constructorNameAsVariable false

namespace Go.Batch
theorem Z8r {ν : Type} {j : Jn} {tk : Tk ν} {bins : List Int} {l l' : List Nat} : ∀ (ms : List Mv) (i b : Nat) (now now' : List (Ste ν)), (∀ s ∈ now, s ∈ now') ->
  (∀ k m, ms[k]? = some m -> (i + k ∈ l -> i + k ∈ l') /\ (i + k ∈ l' -> m.kind = 3)) -> ∀ s ∈ Z2u j tk bins (Zu l ms i) b now, s ∈ Z2u j tk bins (Zu l' ms i) b now'
 | [], i, b, now, now', hn, _, s, hs => hn s hs
 | m :: ms, i, b, now, now', hn, h, s, hs => by
  have h0 := h 0 m rfl;rw [Nat.add_zero] at h0;have hk : ∀ k m', ms[k]? = some m' -> (i + 1 + k ∈ l -> i + 1 + k ∈ l') /\ (i + 1 + k ∈ l' -> m'.kind = 3) := fun k m' hm => by
   have := h (k + 1) m' (by simpa using hm)
   rwa [show i + (k + 1) = i + 1 + k by omega] at this
  simp only [Zu] at hs ⊢
  by_cases h1 : i ∈ l
  ·rw [if_pos h1] at hs;rw [if_pos (h0.1 h1)];exact Z8r ms (i + 1) b now now' hn hk s hs
  ·rw [if_neg h1] at hs
   by_cases h2 : i ∈ l'
   ·rw [if_pos h2];have hm := h0.2 h2;simp only [Z2u] at hs;rw [if_neg (by omega)] at hs;refine Z8r ms (i + 1) b _ now' (fun y hy => ?_) hk s hs;obtain ⟨z, hz, hy⟩ := List.mem_flatMap.1 hy;unfold Z22 at hy;rw [if_neg (by omega), if_neg (by omega)] at hy
    split at hy
    ·simp at hy; subst hy; exact hn _ hz
    ·simp at hy
   ·rw [if_neg h2];simp only [Z2u] at hs ⊢;refine Z8r ms (i + 1) _ _ _ (fun y hy => ?_) hk s hs;obtain ⟨z, hz, hy⟩ := List.mem_flatMap.1 hy;exact List.mem_flatMap.2 ⟨z, hn z hz, hy⟩
theorem Z9y {l : List Nat} : ∀ (ms : List Mv) (i : Nat), (∀ k m, ms[k]? = some m -> i + k ∈ l -> m.kind = 3) -> Z6 (Zu l ms i) = Z6 ms
 | [], i, _ => rfl
 | m :: ms, i, h => by
  have h0 := h 0 m rfl;rw [Nat.add_zero] at h0;have ih := Z9y (l := l) ms (i + 1) fun k m' hm hk => h (k + 1) m' (by simpa using hm) (by rwa [show i + (k + 1) = i + 1 + k by omega]);simp only [Zu]
  by_cases h1 : i ∈ l
  ·rw [if_pos h1, ih, Z2b, if_neg (by have := h0 h1; omega)]
  ·rw [if_neg h1, Z2b, Z2b, ih]
theorem Ze4 : ∀ (ms : List Mv) (i n : Nat), n ∈ Z1h ms i -> i <= n /\ ∃ m, ms[n - i]? = some m /\ m.kind = 3
 | [], i, n, h => by simp [Z1h] at h
 | m :: ms, i, n, h => by
  simp only [Z1h] at h;have key : n ∈ Z1h ms (i + 1) -> i <= n /\ ∃ m', (m :: ms)[n - i]? = some m' /\ m'.kind = 3 := fun h => by
   obtain ⟨h1, m', h2, h3⟩ := Ze4 ms (i + 1) n h;refine ⟨by omega, m', ?_, h3⟩;rw [show n - i = (n - (i + 1)) + 1 by omega, List.getElem?_cons_succ]; exact h2
  split at h
  ·rename_i hm
   rcases List.mem_cons.1 h with e | h
   ·subst e; exact ⟨Nat.le_refl _, m, by simp, hm⟩
   ·exact key h
  ·exact key h
theorem Zkv {j : Jn} {l l' : List Nat} (h' : ∀ n ∈ l', n ∈ Zp j) (h : ∀ n ∈ l, n ∈ l') (hs : Zc (Z12 j l) = true) : Zc (Z12 j l') = true := by
 have hk : ∀ k m, j.moves[k]? = some m -> (0 + k ∈ l -> 0 + k ∈ l') /\ (0 + k ∈ l' -> m.kind = 3) := fun k m hm => ⟨fun g => h _ g, fun g => by
  obtain ⟨-, m', h1, h2⟩ := Ze4 j.moves 0 (0 + k) (h' _ g)
  rw [show 0 + k - 0 = k by omega, hm] at h1
  cases h1; exact h2⟩
 have e1 := Z9y (l := l) j.moves 0 fun k m hm hk' => (hk k m hm).2 ((hk k m hm).1 hk');have e2 := Z9y (l := l') j.moves 0 fun k m hm hk' => (hk k m hm).2 hk';have hne := Zoo hs
 cases e : Zd (Z12 j l) Z1f [] with
 | nil => exact absurd e hne
 | cons y r =>
  have hy : y ∈ Zd (Z12 j l) Z1f [] := by rw [e]; simp
  refine Zh8 (j := Z12 j l') (x := y) ?_;unfold Zd Z12 at hy ⊢;simp only [e1] at hy;simp only [e2];rw [Zcl (j := { j with moves := Zu l j.moves 0 }) (j' := j) rfl rfl] at hy;rw [Zcl (j := { j with moves := Zu l' j.moves 0 }) (j' := j) rfl rfl];exact Z8r j.moves 0 0 _ _ (fun s h => h) hk y hy
end Go.Batch

namespace Go.Batch
theorem Zcr : ∀ (ms : List Mv) (i : Nat), Zu [] ms i = ms
 | [], _ => rfl
 | m :: ms, i => by simp only [Zu, Zcr ms (i + 1)]; rw [if_neg (by simp)]
theorem Ziz (j : Jn) : Z12 j [] = j := by unfold Z12; rw [Zcr]
theorem Zkw {j : Jn} (hs : Zc j = true) : Z6c j = some [] /\ Zc (Z12 j (Zp j)) = true := by
 have h0 : Zc (Z12 j []) = true := by rw [Ziz]; exact hs
 refine ⟨?_, Zkv (fun n h => h) (fun n h => by simp at h) h0⟩;exact (Zsm j).hit (Nat.zero_le _) (show (Zw (Zp j) 0)[0]? = some [] by cases Zp j <;> rfl) h0
end Go.Batch

namespace Go.Batch
theorem Z1cs {fifo : Bool} {bin : Int} {bs : List Int} {i : Nat} {l : List Int} {n : Int} {of : List Int} (h : WayO true bin bs i l n of) : WayO fifo bin bs i l n of :=
 ⟨⟨h.tk.nn, h.tk.le, h.tk.oth, fun _ => h.tk.fst rfl⟩, h.sum, h.len, h.out⟩
section
variable {j : Jn} {k : Nat}
theorem Z1cv (hj : JOk j) {m : Mv} (hm : j.moves[k]? = some m) (h1 : m.kind = 1) {s : Ste (List (Int × Nat × Int))} (hs : s ∈ Zay j Z1f [] k) :
  ∃ s' ∈ Zay j Z1f [] (k + 1), ∀ c, inL c (Z6 j.moves) s'.1 = inL c (Z6 j.moves) s.1 + if m.bin = c then m.lo else 0 := by
 have hmo := hj.mv m (List.mem_of_getElem? hm);have hz := ((Zso hj k s hs).z (Z4e j k) (by rw [Zak]; exact Nat.le_refl _)).1;have hl := (Zva hj k s hs).l;have hb := Z11l hm h1;have hb4 := hj.b4;have hlt := (List.getElem?_eq_some_iff.1 hb).1;refine ⟨(s.1.set (Z4e j k) m.lo, s.2), ?_, fun c => ?_⟩
 ·rw [Zhb hm];refine List.mem_flatMap.2 ⟨s, hs, ?_⟩;unfold Z22;rw [if_pos h1];exact List.mem_map.2 ⟨m.lo, Z2d.2 ⟨Int.le_refl _, hmo.lh⟩, rfl⟩
 ·rw [Z11j (Z6 j.moves) (Z4e j k) s.1 _ m.lo m.bin hb fun k' => by
   rw [Z1r _ _ _ _ (by rw [hl.len]; omega)]
   by_cases e : Z4e j k = k'
   ·rw [if_pos e, if_pos e.symm]
   ·rw [if_neg e, if_neg fun h => e h.symm]]
  rw [hz, Int.sub_zero]
theorem Z1ct (hj : JOk j) {m : Mv} (hm : j.moves[k]? = some m) (h2 : m.kind = 2) {s : Ste (List (Int × Nat × Int))} (hs : s ∈ Zay j Z1f [] k) (hen : m.lo <= inL m.bin (Z6 j.moves) s.1) :
  ∃ s' ∈ Zay j Z1f [] (k + 1), ∀ c, inL c (Z6 j.moves) s'.1 = inL c (Z6 j.moves) s.1 - if c = m.bin then m.lo else 0 := by
 have hmo := hj.mv m (List.mem_of_getElem? hm);have hl := (Zva hj k s hs).l;have hl0 := hmo.l0;have hi1 := hj.i1;obtain ⟨of, hw⟩ := Z125 (bin := m.bin) hj.b4 hl m.lo.toNat (by omega);rw [show ((m.lo.toNat : Nat) : Int) = m.lo by omega] at hw;obtain ⟨i, hi⟩ : ∃ i, i ∈ Z9q j.ins m := by
  unfold Z9q
  split
  ·exact ⟨0, Z2d.2 (by omega)⟩
  ·exact ⟨m.inst, by simp⟩
 refine ⟨(Z2c s.1 of, Zt Z1f s.2 (Z1o i of (Z6 j.moves) 0)), ?_, fun c => ?_⟩
 ·rw [Zhb hm];refine List.mem_flatMap.2 ⟨s, hs, ?_⟩;unfold Z22;rw [if_neg (by omega), if_pos h2];exact List.mem_flatMap.2 ⟨i, hi, List.mem_flatMap.2 ⟨m.lo, Z2d.2 ⟨Int.le_refl _, hmo.lh⟩, (Zks hj.b4 hl hl0 _).2 ⟨of, Z1cs hw, rfl⟩⟩⟩
 ·exact Z115 hl hw
end
structure LostM (m x : Mv) : Prop where
 kind : x.kind = m.kind
 bin : x.bin = m.bin
 lo : x.lo = m.lo
 hi : x.hi = m.hi
 inst : x.inst = m.inst ∨ m.kind = 2 /\ x.inst = -1
theorem LostM.refl (m : Mv) : LostM m m := ⟨rfl, rfl, rfl, rfl, .inl rfl⟩
theorem LostM.nar {ins : Int} {m x : Mv} (h : LostM m x) {j : Jn} (hm : MOk j m) (hi : j.ins = ins) : NarM ins x m := by
 refine ⟨h.kind.symm, h.bin.symm, Int.le_of_eq h.lo, hm.lh, Int.le_of_eq h.hi.symm, ?_⟩;rcases h.inst with e | ⟨e1, e2⟩
 ·exact .inl e.symm
 ·exact .inr ⟨by omega, hm.i0 e1, by rw [<- hi]; exact hm.i1 e1⟩
theorem LostM.ok {m x : Mv} (h : LostM m x) {j j' : Jn} (hm : MOk j m) (hf : j'.first = j.first) (hi : j'.ins = j.ins) (h1 : 1 <= j.ins) : MOk j' x := by
 have e1 := h.kind; have e2 := h.bin; have e3 := h.lo; have e4 := h.hi;refine ⟨by rw [e1]; exact hm.k1, by rw [e1]; exact hm.k3, by rw [e2]; exact hm.b0, by rw [e2, hf]; exact hm.b1, fun hk => ?_, fun hk => ?_, fun hk => ?_, by rw [e3]; exact hm.l0, by rw [e3, e4]; exact hm.lh, by rw [e4]; exact hm.h5⟩
 ·rcases h.inst with e | ⟨-, e⟩
  ·rw [e]; exact hm.i0 (by omega)
  ·omega
 ·rw [hi];rcases h.inst with e | ⟨-, e⟩
  ·rw [e]; exact hm.i1 (by omega)
  ·omega
 ·rcases h.inst with e | ⟨e, -⟩
  ·rw [e]; exact hm.i2 (by omega)
  ·omega
structure LostJ (x : Jn) (ns : List Mv) : Prop where
 len : ns.length = x.moves.length
 at_ : ∀ (i : Nat) (m y : Mv), x.moves[i]? = some m -> ns[i]? = some y -> LostM m y
theorem LostJ.refl (x : Jn) : LostJ x x.moves := ⟨rfl, fun i m y h1 h2 => by rw [h1] at h2; cases h2; exact LostM.refl m⟩
theorem LostJ.set {x : Jn} {ns : List Mv} (h : LostJ x ns) {k : Nat} {m : Mv} (hm : ns[k]? = some m) (h2 : m.kind = 2) : LostJ x (ns.set k ⟨m.kind, m.bin, -1, m.lo, m.hi⟩) := by
 refine ⟨by rw [List.length_set]; exact h.len, fun i a y h1 h3 => ?_⟩;rw [List.getElem?_set] at h3
 by_cases e : k = i
 ·subst e;rw [if_pos rfl, if_pos (List.getElem?_eq_some_iff.1 hm).1] at h3;have h0 := h.at_ k a m h1 hm
  cases h3
  exact ⟨h0.kind, h0.bin, h0.lo, h0.hi, .inr ⟨by rw [<- h0.kind]; exact h2, rfl⟩⟩
 ·rw [if_neg e] at h3;exact h.at_ i a y h1 h3
section
variable {x : Jn} {ns : List Mv}
theorem LostJ.bins (h : LostJ x ns) (hx : JOk x) : Z6 ns = Z6 x.moves := (Z1ch (ins := x.ins) h.len fun i m y h1 h2 => (h.at_ i y m h2 h1).nar (hx.mv y (List.mem_of_getElem? h2)) rfl).symm
theorem LostJ.ok (h : LostJ x ns) (hx : JOk x) : JOk ⟨x.ins, x.first, ns⟩ :=
 ⟨hx.i1, hx.i4, hx.f1, hx.f2, by show ns.length <= 10; rw [h.len]; exact hx.m10, fun y hy => by
  obtain ⟨i, hi⟩ := List.mem_iff_getElem?.1 hy
  have hil := (List.getElem?_eq_some_iff.1 hi).1
  obtain ⟨m, hm⟩ : ∃ m, x.moves[i]? = some m := ⟨_, List.getElem?_eq_getElem (by rw [<- h.len]; exact hil)⟩
  exact (h.at_ i m y hm hi).ok (hx.mv m (List.mem_of_getElem? hm)) rfl rfl hx.i1, by show (Z6 ns).length <= 4; rw [h.bins hx]; exact hx.b4⟩
theorem LostJ.sub (h : LostJ x ns) (hx : JOk x) : Sub x ⟨x.ins, x.first, ns⟩ :=
 Z1cr (j := ⟨x.ins, x.first, ns⟩) (h.ok hx) h.len fun i m y h1 h2 => (h.at_ i y m h2 h1).nar (hx.mv y (List.mem_of_getElem? h2)) rfl
theorem Z1cj {fifo : Bool} {bin i i' : Int} : ∀ (bs : List Int) (k : Nat) (s : Ste Int) (a : Int), Zl fifo Zn bin i bs k s a = Zl fifo Zn bin i' bs k s a
 | [], _, _, _ => rfl
 | b :: bs, k, s, a => by
  have e : ∀ n, Z3n Zn i s k n = Z3n Zn i' s k n := fun n => rfl;unfold Zl;simp only [e, Z1cj (i := i) (i' := i') bs]
theorem LostM.step {m y : Mv} (h : LostM m y) {j j' : Jn} (hi : j'.ins = j.ins) (hf : j'.first = j.first) (h1 : 1 <= j.ins) (bins : List Int) (b : Nat) (s : Ste Int) : ∀ z, z ∈ Z22 j' Zn bins y b s ↔ z ∈ Z22 j Zn bins m b s := fun z => by
 unfold Z22;rw [h.kind, h.bin, h.lo, h.hi, hf, hi]
 split
 ·exact Iff.rfl
 split
 ·have key : ∀ a c : Mv, z ∈ (Z9q j.ins a).flatMap (fun i => (upR m.lo m.hi).flatMap fun n => Zl (j.first.getD m.bin.toNat false) Zn m.bin i bins 0 s n) -> z ∈ (Z9q j.ins c).flatMap (fun i => (upR m.lo m.hi).flatMap fun n => Zl (j.first.getD m.bin.toNat false) Zn m.bin i bins 0 s n) := fun a c hz => by
   obtain ⟨i, -, hz⟩ := List.mem_flatMap.1 hz;obtain ⟨n, hn, hz⟩ := List.mem_flatMap.1 hz;obtain ⟨i', hi'⟩ : ∃ i', i' ∈ Z9q j.ins c := by
    unfold Z9q
    split
    ·exact ⟨0, Z2d.2 (by omega)⟩
    ·exact ⟨c.inst, by simp⟩
   exact List.mem_flatMap.2 ⟨i', hi', List.mem_flatMap.2 ⟨n, hn, by rw [Z1cj (i := i') (i' := i)]; exact hz⟩⟩
  exact ⟨key y m, key m y⟩
 ·exact Iff.rfl
theorem LostJ.none (h : LostJ x ns) (hx : JOk x) : ∀ z, z ∈ Zd ⟨x.ins, x.first, ns⟩ Zn 0 ↔ z ∈ Zd x Zn 0 := fun z => by
 have hb := h.bins hx;unfold Zd;show z ∈ Z2u ⟨x.ins, x.first, ns⟩ Zn (Z6 ns) ns 0 _ ↔ _;rw [hb];constructor
 ·exact fun hz => Z1cg (j := x) (j' := ⟨x.ins, x.first, ns⟩) h.len.symm (fun i m y h1 h2 => ⟨(h.at_ i m y h1 h2).kind.symm, fun b s w hw => ((h.at_ i m y h1 h2).step rfl rfl hx.i1 _ b s w).1 hw⟩) (fun s hs => hs) z hz
 ·exact fun hz => Z1cg (j := ⟨x.ins, x.first, ns⟩) (j' := x) h.len (fun i y m h1 h2 => ⟨(h.at_ i m y h2 h1).kind, fun b s w hw => ((h.at_ i m y h2 h1).step rfl rfl hx.i1 _ b s w).2 hw⟩) (fun s hs => hs) z hz
theorem LostJ.left (h : LostJ x ns) (hx : JOk x) : Z6g ⟨x.ins, x.first, ns⟩ = Z6g x := by
 unfold Z6g;show List.map (fun n : Nat => Zs ((Zd ⟨x.ins, x.first, ns⟩ Zn 0).map fun s => inL n (Z6 ns) s.1)) (List.range x.first.length) = _;rw [h.bins hx];refine List.map_congr_left fun n _ => Z6l fun v => ?_;simp only [List.mem_map];constructor
 ·rintro ⟨s, hs, e⟩; exact ⟨s, (h.none hx s).1 hs, e⟩
 ·rintro ⟨s, hs, e⟩; exact ⟨s, (h.none hx s).2 hs, e⟩
theorem LostJ.call (h : LostJ x ns) (hx : JOk x) (hs : Zc x = true) {l : List Nat} (hl : ∀ b ∈ l, b < 4) (i : Nat) (hc : Zkr x l i = true) : Zkr ⟨x.ins, x.first, ns⟩ l i = true := by
 obtain ⟨s, h1, h2⟩ := (Zde hx hs hl i).1 hc;exact (Zde (h.ok hx) ((h.sub hx).stands hs) hl i).2 ⟨s, (h.sub hx).sub s h1, h2⟩
end
end Go.Batch

namespace Go.Proofs.YtegjabljeepbdaaGreatDoor
open Go Go.Abs Go.Proofs Go.Batch
set_option maxRecDepth 20000 in
set_option maxHeartbeats 4000000 in
theorem Ztc (j : Jn) (hf : j.first.length <= 1152921504606846976) (hm : j.moves.length <= 1152921504606846976) (FL ML : List D) (hF : FL = j.first.map Zv) (hM : ML = j.moves.map mvD) (Q)
  (he : ∀ e, e = Zr j -> e ≠ 0 -> Q (RA.ret (.tup [.v (.slice none 0 0), I e])) []) (hp : JOk j -> Zc j = false -> Q (RA.ret (.tup [.v (.slice none 0 0), I 9])) [])
  (hq : JOk j -> Zc j = true -> ∀ L, L = (Z6g j).map rgD -> Q (RA.ret (.tup [.sl 2 L, I 0])) []) :
  CallA Tryz.prog 18 [.agg [I j.ins, .sl 1 FL, .sl 5 ML]] [] Q := by
 obtain ⟨A, hA⟩ : ∃ A, A = ar := ⟨_, rfl⟩;have hFl : FL.length = j.first.length := by rw [hF, List.length_map]
 refine Z5 Z0 hA Tryz.func18 rfl rfl rfl rfl rfl fun S hS => ?_;cbv;refine Z4 hS [.agg [I j.ins, .sl 1 FL, .sl 5 ML], .fn 50 []] [] [] rfl rfl rfl rfl rfl rfl rfl rfl (by decide) trivial (Zdj j hf hm Zn 50 [] Z73 FL ML hF hM _ (fun e1 he1 hne => ?_) (fun hj ents hme hne => ?_) (fun hj h0 => ?_))
 ·have hz := he e1 he1 hne;have hc : A.cmp .neq e1 0 = true := by subst hA; simpa [ar, Z25] using hne
  refine Z3 Z0 hA hS ?_;cbv;refine bm (fun _ => ?_) (fun c => Bool.noConfusion (hc.symm.trans c));cbv;exact Z2 [] (by decide) Z9 (H' := []) (d' := .tup [.v (.slice none 0 0), I e1]) trivial rfl (Z1 hz)
 rotate_left
 ·have hz := hp hj (Z3y h0);have hc : A.cmp .neq 9 0 = true := by subst hA; rfl
  refine Z3 Z0 hA hS ?_;cbv;refine bmT hc ?_;cbv;exact Z2 [] (by decide) Z9 (H' := []) (d' := .tup [.v (.slice none 0 0), I 9]) trivial rfl (Z1 hz)
 have hf2 := hj.f2;have hm10 := hj.m10;have hst : Zc j = true := (Z28 j Zn).2 hne;have hq := fun L hL => hq hj hst L hL;have hc : A.cmp .neq 0 0 = false := by subst hA; rfl
 have hsok : ∀ s ∈ Zd j Zn 0, StOk s := fun s hs => by rw [<- Z66] at hs; exact Z8s Zfo hj _ s hs
 obtain ⟨N, hN⟩ : ∃ N, N = j.first.length := ⟨_, rfl⟩;rw [<- hN] at hFl hf2;obtain ⟨g, hg⟩ : ∃ g : Nat -> Int × Int, g = fun n : Nat => Zs ((Zd j Zn 0).map fun s => inL n (Z6 j.moves) s.1) := ⟨_, rfl⟩;have hrest : Z74 g N = (Z6g j).map rgD := by rw [Z74, hg, hN]; rfl
 refine Z3 Z0 hA hS ?_;cbv;refine bmF hc ?_;cbv;refine Z4 hS [.agg [I j.ins, .sl 1 FL, .sl 5 ML], .fn 50 []] [] [] rfl rfl rfl rfl rfl rfl rfl rfl (by decide) trivial (Zhe j (by omega) FL ML hM 50 [] (.inl rfl) _ fun BL hBL => ?_);refine Z3 Z0 hA hS ?_;cbv;refine Zb hS ?_;refine Za (α := Int × Nat × List D) (fun q => { env := [(4, .mv 0), (6, .cb (.agg [I j.ins, .sl 1 FL, .sl 5 ML, .sl 1 BL, .fn 50 []]) 0), (7, .o 1 2 q.2.1), (21, I (A.oi (A.len FL))), (22, I q.1)], H := [.ob (.mp 5 ents), .els 2 q.2.2], nt := 33, dfs := [] })
  (fun q => N - q.2.1) (fun q => q.2.1 <= N /\ IsI q.1 q.2.1 /\ q.2.2 = Z74 g q.2.1) (0, 0, []) ⟨Nat.zero_le _, ⟨rfl⟩, rfl⟩ ?_ ?_
 ·refine Z1a hA [2] ?_;cbv;refine Z2a 7 2 rfl ?_;exact Zf [1, 3] ⟨by decide, Z9, ⟨rfl, rfl, trivial⟩, ⟨rfl, rfl, rfl, rfl, rfl, trivial⟩, rfl, rfl⟩
 rintro ⟨i, k, L⟩ ⟨u1, u2, u3⟩;dsimp only at u1 u2 u3;have hLl : L.length = k := by rw [u3]; simp [Z74]
 have hsu := Zao g k;obtain ⟨lo, hlo⟩ : ∃ lo, lo = (g k).1 := ⟨_, rfl⟩;obtain ⟨hi, hhi⟩ : ∃ hi, hi = (g k).2 := ⟨_, rfl⟩;rw [<- hlo, <- hhi] at hsu;have hie := u2.eq;have hlo' : lo = (Zs ((Zd j Zn 0).map fun s => inL i (Z6 j.moves) s.1)).1 := by rw [hlo, hg, hie]
 have hhi' : hi = (Zs ((Zd j Zn 0).map fun s => inL i (Z6 j.moves) s.1)).2 := by rw [hhi, hg, hie]
 have hk6 : k <= 1000000 := by omega
 have hnum := Zvi j.ins (Z6 j.moves) hj.b4 i FL ML BL hBL 50 [] (.inl rfl);refine Zi Z0 hA hS ?_;cbv;refine bm (fun c => ?_) (fun c => ?_)
 ·have hk : k < N := Z31 hA hFl u2 c;have hf1 := Zy hA u2 (by omega);have hu2 := Zz hA u2;have hms : N - (k + 1) < N - k := by omega
  have hL2 : A.app L [.agg [I lo, I hi]] = Z74 g (k + 1) := by rw [Z33 hA, hsu, u3]
  have hn2 : A.addN k 1 = k + 1 := Z2e hA _ _;cbv;refine Z26 hS (Z1a hA [2] ?_);cbv;refine Z7 ?_;refine Z4 hS [.mv 0, .fn 58 [.cb (.agg [I j.ins, .sl 1 FL, .sl 5 ML, .sl 1 BL, .fn 50 []]) 0, .cb (I i) 0]] [0] [.ob (.mp 5 ents)] rfl rfl rfl rfl rfl rfl rfl rfl (by decide) ⟨rfl, trivial⟩ (Zcu ents _ hme hne hsok 58 _ _ hnum lo hi hlo' hhi' _ ?_);refine Z3 Z0 hA hS ?_;cbv;refine ⟨Ze hA hLl, Ze hA rfl, Z27 hA hk6 (by decide), hf1, ?_⟩;refine Z8 (A.add i 1, k + 1, A.app L [.agg [I lo, I hi]]) [0, 4] ⟨hk, hu2, hL2⟩ hms ?_;exact ⟨by decide, Z9, ⟨rfl, rfl, trivial⟩, ⟨rfl, rfl, by rw [<- hn2]; rfl, rfl, rfl, trivial⟩, rfl, rfl⟩
 ·have hk : k = N := by have := Z21 hA hFl u2 c; omega
  have hz2 := hq L (by rw [u3, hk, hrest]);cbv;refine Z7 ?_;cbv;refine Z1w [1] ?_;cbv;exact ⟨by cases L <;> exact hLl.symm, Z2 [] (by decide) Z9 (H' := []) (d' := .tup [.sl 2 L, I 0]) trivial rfl (Z1 hz2)⟩
theorem Zyh (j : Jn) (hj : JOk j) (hst : Zc j = true) (FL ML : List D) (hF : FL = j.first.map Zv) (hM : ML = j.moves.map mvD) (Q) (hq : ∀ L, L = (Z6g j).map rgD -> Q (RA.ret (.tup [.sl 2 L, I 0])) []) :
  CallA Tryz.prog 18 [.agg [I j.ins, .sl 1 FL, .sl 5 ML]] [] Q :=
 Ztc j (lim (by have := hj.f2; omega)) (lim (by have := hj.m10; omega)) FL ML hF hM Q (fun e h1 h2 => Z77 (Z81 hj) h1 h2) (fun _ g => Z7p hst g) (fun _ _ => hq)
section
variable {j : Jn} {ins : Int} {N n m : Nat} {FL ML : List D}
theorem MdJ.left (h : MdJ j ins N n m FL ML) (Q) (hq : ∀ L, L = (Z6g j).map rgD -> Q (RA.ret (.tup [.sl 2 L, I 0])) []) : CallA Tryz.prog 18 [.agg [I ins, .sl 1 FL, .sl 5 ML]] [] Q := by
 have e := h.ie;subst e;exact Zyh j h.ok h.st FL ML h.F h.M Q hq
theorem MdJ.wrong (h : MdJ j ins N n m FL ML) (Q) (hq : Q (RA.ret (.tup [.sl 1 [], I 0])) []) : CallA Tryz.prog 71 [.agg [I ins, .sl 1 FL, .sl 5 ML]] [] Q := by
 have e := h.ie;subst e;obtain ⟨w1, w2⟩ := Zkw h.st;exact Zt2 j h.fl h.ml FL ML h.F h.M Q (fun e h1 h2 => Z77 h.c0 h1 h2) (fun _ g => by rw [w2] at g; cases g) (fun _ _ c hc L hL => by
  rw [w1] at hc; cases hc
  subst hL; exact hq)
end
end Go.Proofs.YtegjabljeepbdaaGreatDoor

namespace Go.Proofs.YtegjabljeepbdaaGreatDoor
open Go Go.Abs Go.Proofs Go.Batch
open Bn (Sl Sh Tk Wk Z14v Z14z runS Z151 ShopOk PlanOk PlanLe Val mo0)
structure NLe (a b : Nat) : Prop where
 le : a <= b
def insS : List (Int × Int) -> Nat -> List Mv
 | [], _ => []
 | r :: l, i => mIn ((i % 2 : Nat) : Int) r.1 r.2 :: insS l (i + 1)
theorem Z1cf : ∀ (l : List (Int × Int)) (i : Nat), (insS l i).length = l.length
 | [], _ => rfl
 | r :: l, i => by simp only [insS, List.length_cons, Z1cf l (i + 1)]
theorem Z1ck (r : Int × Int) : ∀ (l : List (Int × Int)) (i : Nat), insS (l ++ [r]) i = insS l i ++ [mIn (((i + l.length) % 2 : Nat) : Int) r.1 r.2]
 | [], i => rfl
 | x :: l, i => by
  have := Z1ck r l (i + 1);simp only [List.cons_append, insS, this, List.length_cons];rw [show i + 1 + l.length = i + (l.length + 1) by omega]
theorem Z1cm : ∀ (l : List (Int × Int)) (i k : Nat) (m : Mv), (insS l i)[k]? = some m -> ∃ r, l[k]? = some r /\ m = mIn (((i + k) % 2 : Nat) : Int) r.1 r.2
 | [], _, _, _, h => by simp [insS] at h
 | x :: l, i, 0, m, h => ⟨x, rfl, by simp [insS] at h; rw [<- h]; rfl⟩
 | x :: l, i, k + 1, m, h => by
  obtain ⟨r, h1, h2⟩ := Z1cm l (i + 1) k m (by simpa [insS] using h);exact ⟨r, by simpa using h1, by rw [h2, show i + 1 + k = i + (k + 1) by omega]⟩
theorem Z1ci : ∀ (l : List (Int × Int)) (i : Nat), Z6 (insS l i) = (List.range l.length).map fun k => (((i + k) % 2 : Nat) : Int)
 | [], _ => rfl
 | r :: l, i => by
  rw [insS, Z2b, Z1ci l (i + 1), List.length_cons, List.range_succ_eq_map, List.map_cons, List.map_map];show ((i % 2 : Nat) : Int) :: _ = _;rw [Nat.add_zero]
  congr 1
  refine List.map_congr_left fun k _ => ?_;show (((i + 1 + k) % 2 : Nat) : Int) = (((i + (k + 1)) % 2 : Nat) : Int);rw [show i + 1 + k = i + (k + 1) by omega]
theorem Z1cn (L : List Sl) : Z6 (L.map outM) = [] := by
 induction L with
 | nil => rfl
 | cons x L ih => rw [List.map_cons, Z2b, ih]; rfl
def jS (f1 f2 : Bool) (l : List (Int × Int)) (L : List Sl) : Jn := ⟨3, [f1, f2], insS l 0 ++ L.map outM⟩
structure InS (l : List (Int × Int)) (L : List Sl) : Prop where
 n2 : 2 <= l.length
 n4 : l.length <= 4
 r : ∀ x ∈ l, 3 <= x.1 /\ x.1 <= x.2 /\ x.2 <= 5
 l3 : L.length <= 3
 b : ∀ x ∈ L, x.b = 0 ∨ x.b = 1
 t : ∀ x ∈ L, 0 <= x.t /\ x.t < 3
section
variable {f1 f2 : Bool} {l : List (Int × Int)} {L : List Sl}
theorem Z1co (l : List (Int × Int)) (L : List Sl) : Z6 (jS f1 f2 l L).moves = (List.range l.length).map fun k => ((k % 2 : Nat) : Int) := by
 show Z6 (insS l 0 ++ L.map outM) = _;rw [Z2t, Z1cn, List.append_nil, Z1ci];exact List.map_congr_left fun k _ => by rw [Nat.zero_add]
theorem InS.ok (h : InS l L) : JOk (jS f1 f2 l L) where
 i1 := by show (1 : Int) <= 3; decide
 i4 := by show (3 : Int) <= 4; decide
 f1 := by show 1 <= 2; decide
 f2 := by show 2 <= 2; decide
 m10 := by show (insS l 0 ++ L.map outM).length <= 10; rw [List.length_append, List.length_map, Z1cf]; have := h.l3; have := h.n4; omega
 b4 := by rw [Z1co, List.length_map, List.length_range]; exact h.n4
 mv := fun m hm => by
  rcases List.mem_append.1 hm with hm | hm
  ·obtain ⟨k, hk⟩ := List.mem_iff_getElem?.1 hm;obtain ⟨r, h1, rfl⟩ := Z1cm l 0 k m hk;have hr := h.r r (List.mem_of_getElem? h1);have hb : (((0 + k) % 2 : Nat) : Int) < 2 := by omega
   exact ⟨by show (1 : Int) <= 1; decide, by show (1 : Int) <= 3; decide, by show (0 : Int) <= (((0 + k) % 2 : Nat) : Int); omega, hb, fun h => absurd h (by show ¬ (1 : Int) = 2; decide), fun h => absurd h (by show ¬ (1 : Int) = 2; decide), fun _ => rfl, by show 0 <= r.1; omega, hr.2.1, hr.2.2⟩
  ·obtain ⟨x, hx, rfl⟩ := List.mem_map.1 hm;have hb := h.b x hx;have ht := h.t x hx;exact ⟨by show (1 : Int) <= 2; decide, by show (2 : Int) <= 3; decide, by show 0 <= x.b; omega, by show x.b < 2; omega, fun _ => by show -1 <= x.t; omega, fun _ => ht.2, fun h => absurd rfl h, by show (0 : Int) <= 1; decide, by show (1 : Int) <= 1; decide, by show (1 : Int) <= 5; decide⟩
theorem InS.ins (h : InS l L) : ∀ k, k <= l.length -> ∃ s ∈ Zay (jS f1 f2 l L) Z1f [] k, (∀ c, 0 <= inL c (Z6 (jS f1 f2 l L).moves) s.1) /\ (1 <= k -> 3 <= inL 0 (Z6 (jS f1 f2 l L).moves) s.1) /\ (2 <= k -> 3 <= inL 1 (Z6 (jS f1 f2 l L).moves) s.1)
 | 0, _ => by
  refine ⟨_, by rw [Zwq]; exact List.mem_singleton_self _, fun c => Z124 fun k => ?_, fun h => absurd h (by decide), fun h => absurd h (by decide)⟩;rw [Z90]; exact Int.le_refl _
 | k + 1, hk => by
  obtain ⟨s, hs, h0, h1, h2⟩ := h.ins k (by omega);obtain ⟨r, hr⟩ : ∃ r, l[k]? = some r := ⟨_, List.getElem?_eq_getElem (by omega)⟩;have hi : (insS l 0)[k]? = some (mIn ((k % 2 : Nat) : Int) r.1 r.2) := by
   obtain ⟨m, hm⟩ : ∃ m, (insS l 0)[k]? = some m := ⟨_, List.getElem?_eq_getElem (by rw [Z1cf]; omega)⟩;obtain ⟨r', e1, e2⟩ := Z1cm l 0 k m hm;rw [hr] at e1; cases e1;rw [hm, e2, Nat.zero_add]
  have hm : (jS f1 f2 l L).moves[k]? = some (mIn ((k % 2 : Nat) : Int) r.1 r.2) := by
   show (insS l 0 ++ L.map outM)[k]? = _;rw [List.getElem?_append_left (by rw [Z1cf]; omega)]; exact hi
  have hr3 := h.r r (List.mem_of_getElem? hr);obtain ⟨s', hs', he⟩ := Z1cv h.ok hm rfl hs;have he : ∀ c, inL c (Z6 (jS f1 f2 l L).moves) s'.1 = inL c (Z6 (jS f1 f2 l L).moves) s.1 + if ((k % 2 : Nat) : Int) = c then r.1 else 0 := he
  refine ⟨s', hs', fun c => ?_, fun hk1 => ?_, fun hk2 => ?_⟩
  ·have := h0 c;rw [he]; split <;> omega
  ·rw [he]
   by_cases e : k = 0
   ·subst e; rw [if_pos (show ((0 % 2 : Nat) : Int) = 0 from rfl)]; have := h0 0; omega
   ·have := h1 (by omega); split <;> omega
  ·rw [he]
   by_cases e : k = 1
   ·subst e; rw [if_pos (show ((1 % 2 : Nat) : Int) = 1 from rfl)]; have := h0 1; omega
   ·have := h2 (by omega); split <;> omega
theorem InS.outs (h : InS l L) : ∀ k, k <= L.length -> ∃ s ∈ Zay (jS f1 f2 l L) Z1f [] (l.length + k), 3 - (k : Int) <= inL 0 (Z6 (jS f1 f2 l L).moves) s.1 /\ 3 - (k : Int) <= inL 1 (Z6 (jS f1 f2 l L).moves) s.1
 | 0, _ => by
  obtain ⟨s, hs, -, h1, h2⟩ := h.ins (f1 := f1) (f2 := f2) l.length (Nat.le_refl _);have := h.n2;exact ⟨s, hs, by have := h1 (by omega); omega, by have := h2 (by omega); omega⟩
 | k + 1, hk => by
  obtain ⟨s, hs, h1, h2⟩ := h.outs k (by omega);obtain ⟨x, hx⟩ : ∃ x, L[k]? = some x := ⟨_, List.getElem?_eq_getElem (by omega)⟩;have hm : (jS f1 f2 l L).moves[l.length + k]? = some (outM x) := by
   show (insS l 0 ++ L.map outM)[l.length + k]? = _;rw [List.getElem?_append_right (by rw [Z1cf]; omega), Z1cf, Nat.add_sub_cancel_left, List.getElem?_map, hx]; rfl
  have hb := h.b x (List.mem_of_getElem? hx);have hl3 := h.l3;obtain ⟨s', hs', he⟩ := Z1ct h.ok hm rfl hs (by
   show (1 : Int) <= inL x.b _ s.1
   rcases hb with e | e
   ·rw [e]; omega
   ·rw [e]; omega)
  have he : ∀ c, inL c (Z6 (jS f1 f2 l L).moves) s'.1 = inL c (Z6 (jS f1 f2 l L).moves) s.1 - if c = x.b then 1 else 0 := he
  refine ⟨s', hs', ?_, ?_⟩
  ·rw [he]; split <;> omega
  ·rw [he]; split <;> omega
theorem InS.stands (h : InS l L) : Zc (jS f1 f2 l L) = true := by
 obtain ⟨s, hs, -⟩ := h.outs (f1 := f1) (f2 := f2) L.length (Nat.le_refl _);have e : (jS f1 f2 l L).moves.length = l.length + L.length := by
  show (insS l 0 ++ L.map outM).length = _;rw [List.length_append, Z1cf, List.length_map]
 rw [<- e, Zfx (Nat.le_refl _)] at hs;exact Zh8 hs
end
end Go.Proofs.YtegjabljeepbdaaGreatDoor

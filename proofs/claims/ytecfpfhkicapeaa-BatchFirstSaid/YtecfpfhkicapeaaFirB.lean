/- Part FirB of the proofs about the benches of the accordion maker: see the last text of the claim for what is proved. -/
import Derived.Test.YtecfpfhkicapeaaFirA
import Derived.Test.YtecfpfhkicapeaaRefA
import Derived.Test.YtecfpfhkicapeaaMachE
import Derived.Test.YtecfpfhkicapeaaAmoA
import Derived.Test.YtecfpfhkicapeaaBatI
import Derived.Test.YtecfpfhkicapeaaCloseA
set_option linter.unusedVariables false
set_option linter.unusedSimpArgs false
set_option linter.unnecessarySimpa false
set_option linter.constructorNameAsVariable false

namespace Go.Proofs.Ytecfpfhkicapeaa
open Go Go.Abs Go.Proofs Go.Batch
def rowF (hs : Nat -> Nat -> Int) (NB n : Nat) : List D := (List.range NB).map fun b => I (hs n b)
def Z10m (hs : Nat -> Nat -> Int) (NB k : Nat) : List (List D) := (List.range k).map (rowF hs NB)
theorem Z10o (hs : Nat -> Nat -> Int) (NB n : Nat) : (rowF hs NB n).length = NB := by simp [rowF]
theorem Z10u {hs : Nat -> Nat -> Int} {NB n b : Nat} (h : b < NB) : (rowF hs NB n)[b]? = some (I (hs n b)) := by simp [rowF, h]
theorem Z11m (hs : Nat -> Nat -> Int) (NB n : Nat) : FrL (rowF hs NB n) := ⟨fun d hd => by obtain ⟨x, -, rfl⟩ := List.mem_map.1 hd; rfl⟩
theorem Z11a {hs : Nat -> Nat -> Int} {NB n b : Nat} (hb : b < NB) (v : Int) : (rowF hs NB n).set b (I v) = rowF (fun n' b' => if n' = n /\ b' = b then v else hs n' b') NB n := by
 refine List.ext_getElem? fun i => ?_;rw [List.getElem?_set, Z10o]
 by_cases hi : i < NB
 ·rw [Z10u hi, Z10u hi]
  by_cases e : b = i
  ·subst e; rw [if_pos rfl, if_pos hb, if_pos ⟨rfl, rfl⟩]
  ·rw [if_neg e, if_neg (fun h => e h.2.symm)]
 ·rw [if_neg (by omega), List.getElem?_eq_none (by rw [Z10o]; omega), List.getElem?_eq_none (by rw [Z10o]; omega)]
theorem Z11n {hs hs' : Nat -> Nat -> Int} {NB n : Nat} (h : ∀ b, b < NB -> hs n b = hs' n b) : rowF hs NB n = rowF hs' NB n := List.map_congr_left fun b hb => by rw [h b (List.mem_range.1 hb)]
theorem Z10n {hs : Nat -> Nat -> Int} {NB k n : Nat} (h : n < k) : (Z10m hs NB k).getD n [] = rowF hs NB n := by
 rw [List.getD_eq_getElem?_getD]; simp [Z10m, h]
theorem Z10p {hs : Nat -> Nat -> Int} {NB k n : Nat} (h : k <= n) : (Z10m hs NB k).getD n [] = [] := by
 rw [List.getD_eq_getElem?_getD, List.getElem?_eq_none (by simp [Z10m]; exact h)]; rfl
theorem Z11b {hs hs' : Nat -> Nat -> Int} {NB k : Nat} (h : ∀ n b, n < k -> b < NB -> hs n b = hs' n b) : Z10m hs NB k = Z10m hs' NB k := List.map_congr_left fun n hn => Z11n fun b hb => h n b (List.mem_range.1 hn) hb
theorem Z11s {hs : Nat -> Nat -> Int} {NB k n b : Nat} (hn : n < k) (hb : b < NB) (v : Int) (j : Nat) : (Z10m (fun n' b' => if n' = n /\ b' = b then v else hs n' b') NB k).getD j [] = if j = n then (rowF hs NB n).set b (I v) else (Z10m hs NB k).getD j [] := by
 by_cases hj : j < k
 ·rw [Z10n hj, Z10n hj, Z11a hb]
  by_cases e : j = n
  ·subst e; rw [if_pos rfl]
  ·rw [if_neg e]; exact Z11n fun b' _ => if_neg fun h => e h.1
 ·rw [Z10p (by omega), Z10p (by omega), if_neg (by omega)]
theorem Z11f (hs : Nat -> Nat -> Int) (NB k j : Nat) : (Z10m hs NB (k + 1)).getD j [] = if j = k then rowF hs NB k else (Z10m hs NB k).getD j [] := by
 by_cases hj : j < k + 1
 ·rw [Z10n hj]
  by_cases e : j = k
  ·rw [if_pos e, e]
  ·rw [if_neg e, Z10n (by omega)]
 ·rw [Z10p (by omega), Z10p (by omega), if_neg (by omega)]
structure HasI (hs : Nat -> Nat -> Int) (NB k : Nat) (GE : List D) (GN : List Ent) : Prop where
 p : 0 < NB -> ∃ xs : List Value, xs.length = k /\ GridOk xs (Z10m hs NB k) /\ GE = Z3f xs (Z10m hs NB k) 0 /\ GN = Z3t xs (Z10m hs NB k) 0
 z : NB = 0 -> GE = List.replicate k (.sl 1 [])
theorem HasI.len {hs NB k GE GN} (h : HasI hs NB k GE GN) : GE.length = k := by
 by_cases h0 : NB = 0
 ·rw [h.z h0, List.length_replicate]
 ·obtain ⟨xs, h1, -, h2, -⟩ := h.p (by omega);rw [h2, Z4p, h1]
theorem HasI.congr {hs hs' : Nat -> Nat -> Int} {NB k GE GN} (h : HasI hs NB k GE GN) (e : ∀ n b, n < k -> b < NB -> hs n b = hs' n b) : HasI hs' NB k GE GN := by
 have := Z11b (NB := NB) e;exact ⟨fun h0 => by have := h.p h0; rw [Z11b e] at this; exact this, h.z⟩
theorem Z12c (hs : Nat -> Nat -> Int) (NB : Nat) : HasI hs NB 0 [] [] := ⟨fun _ => ⟨[], rfl, ⟨fun j hj => by simp at hj, fun j => by rw [Z10p (Nat.zero_le _)]; exact .nil⟩, rfl, rfl⟩, fun _ => rfl⟩
def lieD (l : List Int) (NB : Nat) : List D := (l.take NB).map I
theorem Z10v {l : List Int} (h : l.length = 4) {NB : Nat} (hb : NB <= 4) : (lieD l NB).length = NB := by simp [lieD, h]; omega
theorem Z10y {l : List Int} (h : l.length = 4) {NB b : Nat} (hb : b < NB) (hb4 : NB <= 4) : (lieD l NB)[b]? = some (I (l.getD b 0)) := by
 unfold lieD;rw [List.getElem?_map, List.getElem?_take, if_pos hb, Z4q (by omega)]; rfl
theorem Z11c (l : List Int) {NB b : Nat} (hb : b < NB) (v : Int) : (lieD l NB).set b (I v) = lieD (l.set b v) NB := by
 unfold lieD;rw [List.take_set, List.map_set]
theorem Z126 {NB : Nat} (hb : NB <= 4) : List.replicate NB (I 0) = lieD [0, 0, 0, 0] NB := by
 match NB, hb with
 | 0, _ => rfl
 | 1, _ => rfl
 | 2, _ => rfl
 | 3, _ => rfl
 | 4, _ => rfl
theorem Z12d (NB n : Nat) : rowF (fun _ _ => 0) NB n = List.replicate NB (I 0) := by
 unfold rowF;refine List.ext_getElem? fun i => ?_
 by_cases h : i < NB
 ·simp [h]
 ·rw [List.getElem?_eq_none (by simp; omega), List.getElem?_eq_none (by simp; omega)]
theorem Z127 {l of : List Int} (h : l.length = 4) (h' : of.length = 4) {b : Nat} (hb : b < 4) : (Z2c l of).set b ((Z2c l of).getD b 0 - 1) = Z2c l (of.set b (of.getD b 0 + 1)) := by
 refine Z86 (by simp [Z2c]) rfl fun k => ?_;have e1 := Zha h (show (of.set b (of.getD b 0 + 1)).length = 4 by rw [List.length_set, h']) k;rw [Z1r _ _ _ _ (by simp [Z2c]; omega), e1, Zha h h', Zha h h', Z1r _ _ _ _ (by omega)]
 by_cases e : b = k
 ·subst e; rw [if_pos rfl, if_pos rfl]; omega
 ·rw [if_neg e, if_neg e]
theorem Z112 {l : List Int} (h : l.length = 4) : Z2c l [0, 0, 0, 0] = l := Z86 rfl h fun k => by rw [Zha h rfl, Z90]; omega
theorem Z12f (so : Int) (v : Int) (hv : v = if so = 1 then 1 else if so = 0 then 2 else 3) (Q) (hq : Q (RA.ret (I v)) []) : CallA Try.prog 44 [I so, I 1] [] Q := by
 obtain ⟨A, hA⟩ : ∃ A, A = ar := ⟨_, rfl⟩;refine Z5 tokT hA Try.func44 rfl rfl rfl rfl rfl fun S hS => ?_;cbv;refine bm (fun c => ?_) (fun c => ?_)
 ·rw [hv, if_pos (xeq hA c)] at hq;cbv;exact Z2 [] (by decide) Z9 (H' := []) (d' := I 1) trivial rfl (Z1 hq)
 ·rw [if_neg (Z2o hA c)] at hv;cbv;refine bm (fun c2 => ?_) (fun c2 => ?_)
  ·rw [hv, if_pos (xeq hA c2)] at hq;cbv;exact Z2 [] (by decide) Z9 (H' := []) (d' := I 2) trivial rfl (Z1 hq)
  ·rw [hv, if_neg (Z2o hA c2)] at hq;cbv;exact Z2 [] (by decide) Z9 (H' := []) (d' := I 3) trivial rfl (Z1 hq)
end Go.Proofs.Ytecfpfhkicapeaa

namespace Go.Proofs.Ytecfpfhkicapeaa
open Go Go.Abs Go.Proofs Go.Batch
def Z10s (first : List Bool) (k : Nat) : List D := (first.take k).map (fun _ => Zv true) ++ (first.drop k).map Zv
theorem Z11g (first : List Bool) : Z10s first 0 = first.map Zv := by simp [Z10s]
theorem Z11h {first : List Bool} {k : Nat} (h : k < first.length) : (Z10s first k).set k (Zv true) = Z10s first (k + 1) := by
 obtain ⟨b, hb⟩ : ∃ b, first[k]? = some b := ⟨_, List.getElem?_eq_getElem h⟩;have e1 : first.drop k = b :: first.drop (k + 1) := by
  obtain ⟨h1, h2⟩ := List.getElem?_eq_some_iff.1 hb;rw [List.drop_eq_getElem_cons h1, h2]
 unfold Z10s;rw [List.set_append, if_neg (by simp; omega), List.take_add_one, hb, e1];have : k - ((first.take k).map fun _ => Zv true).length = 0 := by simp; omega
 rw [this];simp
theorem Z11t {first : List Bool} {k : Nat} (h : k < first.length) : ∃ b, (Z10s first k)[k]? = some (.v (.bool b)) := by
 obtain ⟨b, hb⟩ : ∃ b, first[k]? = some b := ⟨_, List.getElem?_eq_getElem h⟩;refine ⟨b, ?_⟩;unfold Z10s;rw [List.getElem?_append_right (by simp; omega)];have : k - ((first.take k).map fun _ => Zv true).length = 0 := by simp; omega
 rw [this, List.getElem?_map, List.getElem?_drop, Nat.add_zero, hb]; rfl
theorem Z11u (first : List Bool) {k : Nat} (h : first.length <= k) : Z10s first k = (first.map fun _ => true).map Zv := by
 unfold Z10s;rw [List.take_of_length_le h, List.drop_eq_nil_of_le h, List.map_map]; simp
def fixK (ms : List Mv) (k : Nat) : List D := ((ms.take k).map fixM ++ ms.drop k).map mvD
theorem Z128 (ms : List Mv) (k : Nat) : (fixK ms k).length = ms.length := by simp [fixK]; omega
theorem Z11v (ms : List Mv) : fixK ms 0 = ms.map mvD := by simp [fixK]
theorem Z129 (ms : List Mv) {k : Nat} (h : ms.length <= k) : fixK ms k = (ms.map fixM).map mvD := by
 unfold fixK;rw [List.take_of_length_le h, List.drop_eq_nil_of_le h, List.append_nil]
theorem Z11d {ms : List Mv} {k : Nat} {m : Mv} (h : ms[k]? = some m) : (fixK ms k)[k]? = some (mvD m) := by
 have hk : k < ms.length := (List.getElem?_eq_some_iff.1 h).1;unfold fixK;rw [List.getElem?_map, List.getElem?_append_right (by simp; omega)];have : k - ((ms.take k).map fixM).length = 0 := by simp; omega
 rw [this, List.getElem?_drop, Nat.add_zero, h]; rfl
theorem Z113 {ms : List Mv} {k : Nat} {m : Mv} (h : ms[k]? = some m) : (fixK ms k).set k (mvD (fixM m)) = fixK ms (k + 1) := by
 obtain ⟨hk, hm⟩ := List.getElem?_eq_some_iff.1 h;have e1 : ms.drop k = m :: ms.drop (k + 1) := by rw [List.drop_eq_getElem_cons hk, hm]
 unfold fixK;rw [List.map_append, List.set_append, if_neg (by simp; omega), List.take_add_one, h, e1];have : k - (((ms.take k).map fixM).map mvD).length = 0 := by simp; omega
 rw [this];simp
theorem Z11w {ms : List Mv} {k : Nat} {m : Mv} (h : ms[k]? = some m) (h0 : ¬ m.inst < 0) : fixK ms k = fixK ms (k + 1) := by
 have e := Z113 h;have e2 : fixM m = m := by unfold fixM; rw [if_neg h0]
 rw [e2] at e;rw [<- e];have hk : k < (fixK ms k).length := by rw [Z128]; exact (List.getElem?_eq_some_iff.1 h).1
 refine List.ext_getElem? fun i => ?_;rw [List.getElem?_set]
 by_cases ei : k = i
 ·subst ei; rw [if_pos rfl, if_pos hk, Z11d h]
 ·rw [if_neg ei]
section
variable {m : Nat} {K : St -> Prop} {E : List (Nat × D)} {b0 : Blk} {nt : Nat}
theorem Z11x {hs : Nat -> Nat -> Int} {NB N : Nat} {GE : List D} {GN : List Ent} (h : HasI hs NB N GE GN)
  (hv2 : ∀ es bg, View m [0, 1, 2] { env := E, H := [b0, .els 1 es, .ob (.gr 1 bg)], nt := nt, dfs := [] } { env := E, H := [b0, .els 1 es, .ob (.gr 1 bg), .dead], nt := nt, dfs := [] })
  (hg : ∀ OL GN', OL.length = N -> (∀ n, n < N -> OL[n]? = some (.sl 1 (rowF hs NB n))) -> GS m K { env := E, H := [b0, .els 1 OL, .ob (.gr 1 GN')], nt := nt, dfs := [] }) :
  GS m K { env := E, H := [b0, .els 1 GE, .ob (.gr 1 GN)], nt := nt, dfs := [] } := by
 by_cases h0 : NB = 0
 ·refine hg GE GN h.len fun n hn => ?_;have e : rowF hs NB n = [] := List.eq_nil_of_length_eq_zero (by rw [Z10o, h0]);rw [h.z h0, e, List.getElem?_replicate, if_pos hn]
 ·obtain ⟨xs, h1, h2, h3, h4⟩ := h.p (by omega);rw [h3, h4];refine Zpx h2 h1 hv2 (hg _ _ (by simp) fun n hn => ?_);rw [List.getElem?_map, List.getElem?_range hn];show some (D.sl 1 ((Z10m hs NB N).getD n [])) = _;rw [Z10n hn]
end
set_option maxRecDepth 40000 in
set_option maxHeartbeats 16000000 in
theorem Z11e (L : List D) (nums : List Int) (hL : L = nums.map I) (hl : L.length <= 9223372036854775807) (Q) (hq : Q (RA.ret (.v (.bool true))) []) : CallA Try.prog 8 [.sl 1 L] [] Q := by
 obtain ⟨A, hA⟩ : ∃ A, A = ar := ⟨_, rfl⟩;refine Z38 tokT hA [] Try.func8 rfl rfl rfl rfl rfl fun S hS => ?_;cbv;refine Z4 hS [.sl 1 L] [] [] rfl rfl rfl rfl rfl rfl rfl rfl (by decide) trivial (Zvp L nums hL hl _ fun x0 => ?_);refine Z3 tokT hA hS ?_;cbv;refine Z4 hS [.b 0 0, I 9, I 0] [0] [pot x0] rfl rfl rfl rfl rfl rfl rfl rfl (by decide) ⟨rfl, trivial⟩ (Z119 x0 9 0 (by decide) ⟨by decide, by decide⟩ _ fun ins first ms lies truth x1 F0 M0 TL RL fn nm hfn hnm hi1 hi4 hfl hm10 hmm hg hw hF0 hM0 hT hR => ?_);have hmd := Z12e hi1 hi4 hfl hm10 hg hF0 hM0;obtain ⟨j0, N, n0, m0, hj0, md⟩ := hmd;have hex : ∀ m ∈ j0.moves, m.lo = m.hi := fun m hm => by rw [hj0] at hm; exact hw m hm rfl
 have hF00 : F0 = Z10s first 0 := by rw [hF0, Z11g]
 have hM00 : M0 = fixK ms 0 := by rw [hM0, Z11v]
 have hms10 : ms.length <= 10 := hm10;have hfl2 : fn <= 2 := by omega
 have hnm10 : nm <= 10 := by omega
 refine Z3 tokT hA hS ?_;cbv;refine Zb hS ?_;refine Za (α := Int × Nat × List D) (fun q => { env := [(3, .b 0 0), (6, I q.1)], H := [.box (.agg [I ins, .o 1 1 fn, .o 2 5 nm]), .els 1 q.2.2, .els 5 M0], nt := 263, dfs := [] })
  (fun q => fn - q.2.1) (fun q => q.2.1 <= fn /\ IsI q.1 q.2.1 /\ q.2.2 = Z10s first q.2.1) (0, 0, F0) ⟨Nat.zero_le _, ⟨rfl⟩, hF00⟩ ?_ ?_
 ·exact Zf [3, 1, 2] ⟨by decide, Z9, ⟨rfl, rfl, rfl, trivial⟩, ⟨rfl, rfl, trivial⟩, rfl, rfl⟩
 rintro ⟨i, k, FX⟩ ⟨u1, u2, u3⟩;dsimp only at u1 u2 u3;have hyes : A.cmp .lss i (A.oi fn) = true -> k < fn := fun c => by have := xlt hA c; rw [xoi hA] at this; have := u2.eq; omega
 have hno : A.cmp .lss i (A.oi fn) = false -> k = fn := fun c => by have := Z7x hA c; rw [xoi hA] at this; have := u2.eq; omega
 refine Z2w tokT hA hS [] ?_;cbv;refine bm (fun c => ?_) (fun c => ?_)
 ·have hk := hyes c;have hin : A.inb i fn := Z4o hA u2 hk;have hf1 := Zy hA u2 (by omega);have hu2 := Zz hA u2;have hms : fn - (k + 1) < fn - k := by omega
  obtain ⟨b0, hb0⟩ := Z11t (first := first) (k := k) (by omega);rw [<- u3] at hb0;have gF := Z18 hA u2 hb0;have hFX : A.set FX (A.tn i) (.v (.bool true)) = Z10s first (k + 1) := by rw [Z7n hA u2 rfl, u3]; exact Z11h (by omega)
  cbv;refine ⟨hin, ?_⟩;refine ⟨_, gF, ?_⟩;cbv;refine ⟨hf1, ?_⟩;refine Z8 (A.add i 1, k + 1, A.set FX (A.tn i) (.v (.bool true))) [0, 1, 2] ⟨hk, hu2, hFX⟩ hms ?_;exact ⟨by decide, Z9, ⟨rfl, rfl, rfl, trivial⟩, ⟨rfl, rfl, trivial⟩, rfl, rfl⟩
 ·have hk := hno c;have hFX : FX = (first.map fun _ => true).map Zv := by rw [u3]; exact Z11u first (by omega)
  have hM0l : M0 = fixK ms 0 := hM00;cbv;refine Z7 ?_;cbv;refine Zb hS ?_;refine Za (α := Int × Nat × List D) (fun q => { env := [(3, .b 0 0), (7, I q.1)], H := [.box (.agg [I ins, .o 1 1 fn, .o 2 5 nm]), .els 1 FX, .els 5 q.2.2], nt := 263, dfs := [] })
   (fun q => nm - q.2.1) (fun q => q.2.1 <= nm /\ IsI q.1 q.2.1 /\ q.2.2 = fixK ms q.2.1) (0, 0, M0) ⟨Nat.zero_le _, ⟨rfl⟩, hM0l⟩ ?_ ?_
  ·exact Zf [0, 1, 2] ⟨by decide, Z9, ⟨rfl, rfl, rfl, trivial⟩, ⟨rfl, rfl, trivial⟩, rfl, rfl⟩
  rintro ⟨i, k, MX⟩ ⟨w1, w2, w3⟩;dsimp only at w1 w2 w3;have hyes : A.cmp .lss i (A.oi nm) = true -> k < nm := fun c => by have := xlt hA c; rw [xoi hA] at this; have := w2.eq; omega
  have hno : A.cmp .lss i (A.oi nm) = false -> k = nm := fun c => by have := Z7x hA c; rw [xoi hA] at this; have := w2.eq; omega
  refine Z2w tokT hA hS [] ?_;cbv;refine bm (fun c => ?_) (fun c => ?_)
  ·have hk := hyes c;obtain ⟨m, hmk⟩ : ∃ m, ms[k]? = some m := ⟨_, List.getElem?_eq_getElem (by omega)⟩;have hMk : MX[k]? = some (mvD m) := by rw [w3]; exact Z11d hmk
   have hnx := Z113 hmk;have hsm := Z11w hmk;obtain ⟨kd, bn, it, lo, hi⟩ := m;unfold mvD at hMk;dsimp only at hMk hsm;have gM := Z18 hA w2 hMk;have hin : A.inb i nm := Z4o hA w2 hk;have hf1 := Zy hA w2 (by omega);have hw2 := Zz hA w2;have hms : nm - (k + 1) < nm - k := by omega
   have hneg : A.cmp .lss it 0 = true -> A.set MX (A.tn i) (.agg [I kd, I bn, I 0, I lo, I hi]) = fixK ms (k + 1) := fun c => by
    have h := xlt hA c;rw [Z7n hA w2 rfl, w3, <- hnx];unfold fixM mvD;rw [if_pos h]
   have hpos : A.cmp .lss it 0 = false -> MX = fixK ms (k + 1) := fun c => by
    have h := Z7x hA c;rw [w3]; exact hsm (by omega)
   clear hnx hsm hMk;cbv;refine ⟨hin, ?_⟩;refine ⟨_, gM, ?_⟩;cbv;refine bm (fun c2 => ?_) (fun c2 => ?_)
   ·have hz := hneg c2;cbv;refine ⟨hin, ?_⟩;refine ⟨_, gM, ?_⟩;cbv;refine ⟨hf1, ?_⟩;refine Z8 (A.add i 1, k + 1, A.set MX (A.tn i) (.agg [I kd, I bn, I 0, I lo, I hi])) [0, 1, 2] ⟨hk, hw2, hz⟩ hms ?_;exact ⟨by decide, Z9, ⟨rfl, rfl, rfl, trivial⟩, ⟨rfl, rfl, trivial⟩, rfl, rfl⟩
   ·have hz := hpos c2;cbv;refine ⟨hf1, ?_⟩;refine Z8 (A.add i 1, k + 1, MX) [0, 1, 2] ⟨hk, hw2, hz⟩ hms ?_;exact ⟨by decide, Z9, ⟨rfl, rfl, rfl, trivial⟩, ⟨rfl, rfl, trivial⟩, rfl, rfl⟩
  have hk := hno c;have hMX : MX = (ms.map fixM).map mvD := by rw [w3]; exact Z129 ms (by omega)
  obtain ⟨jF, hjF⟩ : ∃ jF, jF = Z10l j0 := ⟨_, rfl⟩;have hjFe : jF = ⟨ins, first.map fun _ => true, ms.map fixM⟩ := by rw [hjF, hj0]; rfl
  have hok : JOk jF := by rw [hjF]; exact Z111 md.ok
  have hst : Zc jF = true := by rw [hjF]; exact Z10z md.ok hex md.st
  have hft : ∀ b, b < jF.first.length -> jF.first.getD b false = true := fun b hb => by
   rw [hjFe] at hb ⊢;rw [List.getD_eq_getElem?_getD];simp at hb ⊢;simp [hb]
  have hxF : ∀ m ∈ jF.moves, m.lo = m.hi /\ 0 <= m.inst := fun m hm => by
   rw [hjF] at hm;obtain ⟨x, hx, rfl⟩ := List.mem_map.1 hm;obtain ⟨-, -, e3, e4⟩ := Z10t x;refine ⟨by rw [e3, e4]; exact hex x hx, ?_⟩;unfold fixM; split
   ·exact Int.le_refl _
   ·omega
  have hiF : jF.ins = ins := by rw [hjFe]
  have hFF : FX = jF.first.map Zv := by rw [hjFe]; exact hFX
  have hMF : MX = jF.moves.map mvD := by rw [hjFe]; exact hMX
  have hFXl : fn = FX.length := by rw [hFX]; simp; exact hfn
  have hMXl : nm = MX.length := by rw [hMX]; simp; exact hnm
  have hN := md.nI;have hN4 := md.N4;have hmdF : MdJ jF ins N fn nm FX MX := ⟨hok, hst, hiF, hN, hFF, hMF, by rw [hFXl, hFF, List.length_map], by rw [hMXl, hMF, List.length_map]⟩;have hxF1 : A.eqN fn (A.len FX) := Ze hA hFXl.symm;have hxM1 : A.eqN nm (A.len MX) := Ze hA hMXl.symm;obtain ⟨bins, hbins⟩ : ∃ bins, bins = Z6 jF.moves := ⟨_, rfl⟩;obtain ⟨NB, hNB⟩ : ∃ NB, NB = bins.length := ⟨_, rfl⟩;have hNB4 : NB <= 4 := by rw [hNB, hbins]; exact hok.b4
  have hbin := fun Q h => Zho jF (by have := hok.m10; omega) FX MX hMF Q h;rw [hiF, <- hbins] at hbin;have hmm10 : nm <= 10 := hnm10;clear hex hF00 hM00 hFX hMX hM0l hF0 hM0 w3 u3 hjFe hjF md hw hg hT hR hj0;cbv;refine Z7 ?_;cbv;refine Z26 hS (Z1a hA [1, 2] ?_);cbv;refine ⟨hxM1, hxF1, hxM1, hxF1, hxM1, ?_⟩;refine Z1a hA [0] ?_;cbv;refine Z7 ?_;refine Z4 hS [.agg [I ins, .sl 1 FX, .sl 5 MX]] [] [] rfl rfl rfl rfl rfl rfl rfl rfl (by decide) trivial (hbin _ fun BL hBL => ?_);have hBl : BL.length = NB := by rw [hBL, hNB, List.length_map]
  have hBg : ∀ b, b < NB -> BL[b]? = some (I (bins.getD b 0)) := fun b hb => by rw [hBL, List.getElem?_map, Z4q (by omega)]; rfl
  have htn : A.tn (A.oi (A.len BL)) = NB := by rw [Z5a hA hBl]; subst hA; rfl
  have hnn : A.nneg (A.oi (A.len BL)) := by rw [Z5a hA hBl]; subst hA; show (0 : Int) <= (NB : Int); omega
  have hrm : A.room (A.tn (A.oi (A.len BL))) 8 := by rw [htn]; exact Zj1 hA (by omega) (by decide)
  have hrep : A.rep (A.tn (A.oi (A.len BL))) (I 0) = lieD [0, 0, 0, 0] NB := by rw [htn, <- Z126 hNB4]; subst hA; rfl
  obtain ⟨Z0, hZ0⟩ : ∃ Z0, Z0 = lieD [0, 0, 0, 0] NB := ⟨_, rfl⟩;rw [<- hZ0] at hrep;have hZr : ∀ n, Z0 = rowF (fun _ _ => 0) NB n := fun n => by rw [hZ0, Z12d, Z126 hNB4]
  have hZl : Z0.length = NB := by rw [hZ0]; exact Z10v rfl hNB4
  refine Z3 tokT hA hS ?_;cbv;refine ⟨hnn, hrm, ?_⟩;refine Zb hS ?_;refine Za (α := Int × Nat × List D × List Ent) (fun q => { env := [(3, .cb (.agg [I ins, .sl 1 FX, .sl 5 MX]) 0), (8, .sl 1 BL), (9, .o 0 1 NB), (10, .o 1 1 q.2.1), (11, I q.1)], H := [.els 1 Z0, .els 1 q.2.2.1, .ob (.gr 1 q.2.2.2)], nt := 263, dfs := [] })
   (fun q => N - q.2.1) (fun q => q.2.1 <= N /\ IsI q.1 q.2.1 /\ HasI (fun _ _ => 0) NB q.2.1 q.2.2.1 q.2.2.2) (0, 0, [], []) ⟨Nat.zero_le _, ⟨rfl⟩, Z12c _ _⟩ ?_ ?_
  ·refine Z39 3 rfl hrep ?_;refine Z2a 10 1 rfl ?_;refine Zpw 1 [] (fun j e row h => by simp at h) ?_;exact Zf [3, 4, 5] ⟨by decide, Z9, ⟨rfl, rfl, rfl, trivial⟩, ⟨rfl, rfl, by rw [<- htn]; rfl, rfl, rfl, trivial⟩, rfl, rfl⟩
  rintro ⟨i, k, GE, GN⟩ ⟨u1, u2, u3⟩;dsimp only at u1 u2 u3;have hgl := u3.len;have hNe := hN.eq;have hyes : A.cmp .lss i ins = true -> k < N := fun c => by have := xlt hA c; have := u2.eq; omega
  have hno : A.cmp .lss i ins = false -> k = N := fun c => by have := Z7x hA c; have := u2.eq; omega
  refine Z2w tokT hA hS [17] ?_;cbv;refine bm (fun c => ?_) (fun c => ?_)
  ·have hk := hyes c;have hf1 := Zy hA u2 (by omega);have hu2 := Zz hA u2;have hms : N - (k + 1) < N - k := by omega
   have ekk : A.addN k 1 = k + 1 := Z2e hA _ _;have hroom : A.room (A.addN k 1) 24 := by rw [ekk]; exact Zj1 hA (by omega) (by decide)
   have en : A.eqN k (A.len GE) := Ze hA hgl;cbv;refine Z4j tokT hA hS [0, 1, 2, 3] [4, 5, 6] rfl ?_;cbv;refine ⟨hnn, hrm, ?_⟩
   by_cases h0 : NB = 0
   ·have hz := u3.z h0;have hZ : Z0 = [] := List.eq_nil_of_length_eq_zero (by rw [hZl, h0]);have hG2 : HasI (fun _ _ => 0) NB (k + 1) (A.app GE [.sl 1 []]) GN := ⟨fun h => absurd h (by omega), fun _ => by rw [Z33 hA, hz, List.replicate_succ']⟩;have e0 : A.tn (A.oi (A.len BL)) = 0 := by rw [htn, h0]
    have hrep0 : A.rep (A.tn (A.oi (A.len BL))) (I 0) = [] := by rw [hrep, hZ]
    refine Z26 hS (Z39 3 rfl hrep0 (Zo7 76 (.o 3 1 0) rfl (WkD.eq (congrArg (fun n => D.o 3 1 n) e0)) (Z1a hA [3] ?_)));cbv;refine ⟨by subst hA; rfl, Z7 (Zii hS (Z3 tokT hA hS ?_))⟩;cbv;refine ⟨en, Ze hA rfl, hroom, hf1, ?_⟩;refine Z8 (A.add i 1, k + 1, A.app GE [.sl 1 []], GN) [0, 5, 2] ⟨hk, hu2, hG2⟩ hms ?_;exact ⟨by decide, Z9, ⟨rfl, rfl, rfl, trivial⟩, ⟨rfl, rfl, rfl, by rw [<- ekk]; rfl, rfl, trivial⟩, rfl, rfl⟩
   ·obtain ⟨xs, x1, x2, x3, x4⟩ := u3.p (by omega);have hr0 : 0 < Z0.length := by rw [hZl]; omega
    have hgnl : GN.length = k := by rw [x4, Z3m, x1]
    refine Z26 hS (Z39 3 rfl hrep (Zo7 76 (.o 3 1 NB) rfl (WkD.eq (congrArg (fun n => D.o 3 1 n) htn)) (Z11p (ents := GN) (row := Z0) 2 3 k 76 hZl.symm rfl rfl rfl (Nat.le_of_eq hgnl.symm) (fun e row' he => by rw [List.getElem?_eq_none (Nat.le_of_eq hgnl)] at he; cases he) hr0 fun x hx1 => ?_)));have hap := Z120 (x := x) x2 x1 hr0 (by rw [hZr 0]; exact Z11m _ _ _) (rows' := Z10m (fun _ _ => 0) NB (k + 1)) (fun j => by rw [Z11f, hZr k]);rw [<- x3, <- x4] at hap;obtain ⟨hap1, hap2, hap3⟩ := hap;obtain ⟨GN2, hGN2⟩ : ∃ GN2, GN2 = Z3t (xs ++ [x]) (Z10m (fun _ _ => 0) NB (k + 1)) 0 := ⟨_, rfl⟩;rw [<- hGN2] at hap2;have hG2 : HasI (fun _ _ => 0) NB (k + 1) (A.app GE [.v x]) GN2 := ⟨fun _ => ⟨xs ++ [x], by rw [List.length_append, x1]; rfl, hap3, by rw [Z33 hA]; exact hap1, hGN2⟩, fun h => absurd h h0⟩;refine Zog 2 rfl (congrArg (fun g => Blk.ob (.gr 1 g)) hap2) (Z7 (Zii hS (Z3 tokT hA hS ?_)));cbv;refine ⟨en, Ze hA rfl, hroom, hf1, ?_⟩;refine Z8 (A.add i 1, k + 1, A.app GE [.v x], GN2) [0, 5, 2] ⟨hk, hu2, hG2⟩ hms ?_;exact ⟨by decide, Z9, ⟨rfl, rfl, rfl, trivial⟩, ⟨rfl, rfl, rfl, by rw [<- ekk]; rfl, rfl, trivial⟩, rfl, rfl⟩
  have hkN := hno c;rw [hkN] at u3 hgl;have hD0 : DetS jF 0 [0, 0, 0, 0] (fun _ _ => 0) := DetS.start jF;have hMXl2 : MX.length = nm := hMXl.symm;have hcN : ∀ k, Z4e jF k <= NB := fun k => by rw [hNB, hbins]; exact Zcq jF k
  have hmlen : jF.moves.length = nm := by rw [hmdF.m]
  clear hno hyes hgl u2;cbv;refine Z7 ?_;cbv;refine Zb hS ?_;refine Za (α := Int × Nat × Int × List Int × (Nat -> Nat -> Int) × List D × List D × List Ent) (fun q => { env := [(3, .cb (.agg [I ins, .sl 1 FX, .sl 5 MX]) 0), (8, .sl 1 BL), (9, .o 0 1 NB), (10, .o 1 1 N), (12, I q.2.2.1), (13, I q.1)], H := [.els 1 q.2.2.2.2.2.1, .els 1 q.2.2.2.2.2.2.1, .ob (.gr 1 q.2.2.2.2.2.2.2)], nt := 263, dfs := [] })
   (fun q => nm - q.2.1) (fun q => q.2.1 <= nm /\ IsI q.1 q.2.1 /\ IsI q.2.2.1 (Z4e jF q.2.1) /\ DetS jF q.2.1 q.2.2.2.1 q.2.2.2.2.1 /\ q.2.2.2.2.2.1 = lieD q.2.2.2.1 NB /\ HasI q.2.2.2.2.1 NB N q.2.2.2.2.2.2.1 q.2.2.2.2.2.2.2) (0, 0, 0, [0, 0, 0, 0], (fun _ _ => 0), Z0, GE, GN) ⟨Nat.zero_le _, ⟨rfl⟩, ⟨by show (0 : Int) = _; rw [Zv7]; rfl⟩, hD0, hZ0, u3⟩ ?_ ?_
  ·exact Zf [0, 1, 2] ⟨by decide, Z9, ⟨rfl, rfl, rfl, trivial⟩, ⟨rfl, rfl, rfl, by rw [<- hkN]; rfl, rfl, rfl, trivial⟩, rfl, rfl⟩
  clear u3 hD0;rintro ⟨i, k, cI0, l, hs, LL, GE, GN⟩ ⟨u1, u2, u3, u4, u5, u6⟩;dsimp only at u1 u2 u3 u4 u5 u6;have hyes : A.cmp .lss i (A.oi (A.len MX)) = true -> k < nm := fun c => Z31 hA hMXl2 u2 c;have hno : A.cmp .lss i (A.oi (A.len MX)) = false -> k = nm := fun c => by have := Z21 hA hMXl2 u2 c; omega
  refine Z2w tokT hA hS [26] ?_;cbv;refine bm (fun c => ?_) (fun c => ?_)
  ·have hk := hyes c;obtain ⟨m, hmk⟩ : ∃ m, jF.moves[k]? = some m := ⟨_, List.getElem?_eq_getElem (by omega)⟩;have hmm := List.mem_of_getElem? hmk;have hmo := hok.mv m hmm;have hmx := hxF m hmm;have hcs := Zn1 hmk;have hlt := fun h => Zv9 hmk h;have hlok := u4.ok hok;have hl0 := hmo.l0;have hlh5 := hmo.h5;have hft' := hft m.bin.toNat (by have := hmo.b0; have := hmo.b1; omega);have hen := fun h => u4.enough hok hst hmk h hmx.1;have hin_ := fun h => u4.in_ hst hmk h hmx.1;have hcnt := fun h h' => u4.cnt hst hmk h h';have hout := fun h (i : Nat) (hi : m.inst = i) of hw => u4.out hok hst hmk h hmx.1 hft' (i := i) hi (of := of) hw;have hMk : MX[k]? = some (mvD m) := by rw [hMF, List.getElem?_map, hmk]; rfl
   have hinst : m.kind = 2 -> m.inst < ins := fun h => by have := hmo.i1 h; rw [hiF] at this; exact this
   obtain ⟨kd, bn, it, lo, hi⟩ := m;unfold mvD at hMk;dsimp only at hMk hmx hcs hlt hl0 hlh5 hen hin_ hcnt hout hinst;have gM := Z18 hA u2 hMk;have iM := Z1b hA hMXl2 u2 hk;have hf1 := Zy hA u2 (by omega);have hu2 := Zz hA u2;have hms : nm - (k + 1) < nm - k := by omega
   obtain ⟨cN, hcNe⟩ : ∃ cN, cN = Z4e jF k := ⟨_, rfl⟩;obtain ⟨cN1, hcN1⟩ : ∃ cN1, cN1 = Z4e jF (k + 1) := ⟨_, rfl⟩;have hcb := hcN (k + 1);have hcb0 := hcN k;have hltN : kd = 1 -> cN < NB := fun h => by rw [hcNe, hNB, hbins]; exact hlt h
   obtain ⟨l1, hl1⟩ : ∃ l1 : List Int, l1 = if kd = 1 then l.set cN lo else l := ⟨_, rfl⟩
   obtain ⟨hlok1, hlz, hhb⟩ := hlok;have hl4 : l.length = 4 := hlok1.len;have hl14 : l1.length = 4 := by rw [hl1]; split <;> simp [hl4]
   rw [<- hcNe] at u3 hcs hlz hin_ hcb0;rw [<- hcN1] at hcs hcb;have hcs1 : kd = 1 -> IsI (A.add cI0 1) cN1 := fun h => ⟨by rw [if_pos h] at hcs; rw [Z58 hA, u3.eq, hcs]; omega⟩;have hcs0 : kd ≠ 1 -> IsI cI0 cN1 := fun h => ⟨by rw [if_neg h] at hcs; rw [u3.eq, hcs]; rfl⟩;have hLLl : LL.length = NB := by rw [u5]; exact Z10v hl4 hNB4
   obtain ⟨itN, hit⟩ : ∃ itN : Nat, it = itN := ⟨it.toNat, by have := hmx.2; omega⟩;have hitI : IsI it itN := ⟨hit⟩;have hitN : kd = 2 -> itN < N := fun h => by have := hinst h; have := hN.eq; omega
   have hlr2 : ∀ z : Nat, z <= lo.toNat -> (z : Int) <= lo := fun z h => by omega
   have hfin : ∀ of : List Int, (kd = 2 -> WayO true bn bins 0 l lo of) -> (kd ≠ 2 -> of = [0, 0, 0, 0]) -> DetS jF (k + 1) (Z2c l1 of) (fun n b => hs n b + if n = itN then of.getD b 0 else 0) := fun of h2 hn => by
    by_cases k2 : kd = 2
    ·have e1 : l1 = l := by rw [hl1, if_neg (by omega)]
     rw [e1];exact hout k2 itN hit of (by rw [<- hbins]; exact h2 k2)
    ·have e0 := hn k2;have eh : (fun n b => hs n b + if n = itN then of.getD b 0 else 0) = hs := by
      funext n b; rw [e0, Z90]; split <;> omega
     rw [eh, e0, Z112 hl14]
     by_cases k1 : kd = 1
     ·rw [hl1, if_pos k1]; exact hin_ k1
     ·rw [hl1, if_neg k1]; exact hcnt k1 k2
   clear hin_ hcnt hout hft';cbv;refine ⟨iM, ⟨_, gM, ?_⟩⟩;cbv;refine' bm2 (S := S) (α := Int × List D) (fun q => { env := [(3, .cb (.agg [I ins, .sl 1 FX, .sl 5 MX]) 0), (8, .sl 1 BL), (9, .o 0 1 NB), (10, .o 1 1 N), (12, I q.1), (13, I i), (14, .cb (.agg [I kd, I bn, I it, I lo, I hi]) 0)], H := [.els 1 q.2, .els 1 GE, .ob (.gr 1 GN)], nt := 263, dfs := [] }) (fun q => IsI q.1 cN1 /\ q.2 = lieD l1 NB) (fun rest e1 => ?h1) (fun rest e1 => ?h2) ?h3
   case h1 =>
    have k1 : kd = 1 := xeq hA e1;have hlt1 := hltN k1;have hcI1 : IsI (A.add cI0 1) cN1 := hcs1 k1;have hfc : A.fits .i64 (A.add cI0 1) := Zy hA u3 (by omega);have iL : A.inb cI0 NB := Z4o hA u3 hlt1;have gL := Z18 hA u3 (show LL[cN]? = some (I (l.getD cN 0)) by rw [u5]; exact Z10y hl4 hlt1 hNB4);have hLL1 : A.set LL (A.tn cI0) (I lo) = lieD l1 NB := by rw [Z7n hA u3 rfl, u5, hl1, if_pos k1]; exact Z11c l hlt1 lo
    cbv;refine ⟨iL, ⟨_, gL, ?_⟩⟩;cbv;refine ⟨hfc, ?_⟩;refine Zof hS rest (A.add cI0 1, A.set LL (A.tn cI0) (I lo)) ⟨hcI1, hLL1⟩ ?_;refine Z1a hA [3] ?_;cbv;exact Zf [0, 1, 2] ⟨by decide, Z9, ⟨rfl, rfl, rfl, trivial⟩, ⟨rfl, rfl, rfl, rfl, rfl, rfl, rfl, trivial⟩, rfl, rfl⟩
   case h2 =>
    have k1 : kd ≠ 1 := Z2o hA e1;have hcI1 : IsI cI0 cN1 := hcs0 k1;have hLL1 : LL = lieD l1 NB := by rw [hl1, if_neg k1]; exact u5
    cbv;refine Zof hS rest (cI0, LL) ⟨hcI1, hLL1⟩ ?_;refine Z1a hA [3] ?_;cbv;exact Zf [0, 1, 2] ⟨by decide, Z9, ⟨rfl, rfl, rfl, trivial⟩, ⟨rfl, rfl, rfl, rfl, rfl, rfl, rfl, trivial⟩, rfl, rfl⟩
   rintro ⟨cI, LL1⟩ ⟨p1, p2⟩;dsimp only at p1 p2;have hx0 : HasI (fun n b => hs n b + if n = itN then ([0, 0, 0, 0] : List Int).getD b 0 else 0) NB N GE GN := u6.congr fun n b _ _ => by rw [Z90]; split <;> omega
   have hlw : WayO true bn bins 0 l (lo - (lo.toNat : Nat)) [0, 0, 0, 0] := by
    have : lo - ((lo.toNat : Nat) : Int) = 0 := by omega
    rw [this]; exact Zfv hlok1.lo
   have hloI : IsI lo lo.toNat := ⟨by omega⟩;have hLz : LL1 = lieD (Z2c l1 [0, 0, 0, 0]) NB := by rw [Z112 hl14]; exact p2
   have hlr : ((lo.toNat : Nat) : Int) <= lo := by omega
   have hway : ∀ (of : List Int) (r : Nat), kd = 2 -> r = 0 -> WayO true bn bins 0 l (lo - (r : Nat)) of -> WayO true bn bins 0 l lo of := fun of r _ h0 h => by rw [h0] at h; rw [show lo - ((0 : Nat) : Int) = lo by omega] at h; exact h
   have hown : ∀ (of : List Int) (r : Nat), kd = 2 -> ((r + 1 : Nat) : Int) <= lo -> WayO true bn bins 0 l (lo - ((r + 1 : Nat) : Int)) of -> ∃ own, own < cN1 /\ own < NB /\ bins.getD own 0 = bn /\ 0 < (Z2c l of).getD own 0 /\ (∀ x, x < own -> ¬ (bins.getD x 0 = bn /\ 0 < (Z2c l of).getD x 0)) /\ WayO true bn bins 0 l (lo - (r : Nat)) (of.set own (of.getD own 0 + 1)) := fun of r k2 hr hw => by
    have h1 := Z115 (c := bn) hlok1 hw;rw [if_pos rfl] at h1;have h2 := hen k2;rw [<- hbins] at h2;obtain ⟨x, hx1, hx2⟩ := Z114 (bin := bn) (bs := bins) (l := Z2c l of) (by omega);obtain ⟨own, ⟨ho1, ho2⟩, ho3⟩ := least_nat (P := fun k => bins[k]? = some bn /\ 0 < (Z2c l of).getD k 0) x ⟨hx1, hx2⟩;have hob : own < NB := by rw [hNB]; exact (List.getElem?_eq_some_iff.1 ho1).1
    have hog : bins.getD own 0 = bn := by rw [List.getD_eq_getElem?_getD, ho1]; rfl
    have hoc : own < cN1 := by
     refine Nat.lt_of_not_le fun h => ?_;have e1 : cN1 = cN := by rw [if_neg (by omega)] at hcs; omega
     have := hlz own (by omega);have hn := hw.tk.nn own;rw [Zha hl4 hw.len, this] at ho2;omega
    have hnh : ∀ x, x < own -> ¬ (bins.getD x 0 = bn /\ 0 < (Z2c l of).getD x 0) := fun x hx h => by
     refine ho3 x hx ⟨?_, h.2⟩;rw [Z4q (by omega), h.1]
    refine ⟨own, hoc, hob, hog, ho2, hnh, ?_⟩;have hu := Z116 (by omega) hw ho1 (by rw [<- Zha hl4 hw.len]; exact ho2) (fun x hx hxb => by
     have h3 := hnh x hx
     rw [Zha hl4 hw.len] at h3
     have : ¬ 0 < l.getD x 0 - of.getD x 0 := fun g => h3 ⟨by rw [List.getD_eq_getElem?_getD, hxb]; rfl, g⟩
     omega)
    rw [show lo - ((r + 1 : Nat) : Int) + 1 = lo - (r : Nat) by omega] at hu;exact hu
   have hl1e : kd = 2 -> l1 = l := fun h => by rw [hl1, if_neg (by omega)]
   refine Zb hS ?_;refine Z2w tokT hA hS [] ?_;cbv;refine Zb hS ?_;refine Za (α := Int × Nat × List Int × List D × List D × List Ent) (fun q => { env := [(3, .cb (.agg [I ins, .sl 1 FX, .sl 5 MX]) 0), (8, .sl 1 BL), (9, .o 0 1 NB), (10, .o 1 1 N), (12, I cI), (13, I i), (14, .cb (.agg [I kd, I bn, I it, I lo, I hi]) 0), (15, I q.1)], H := [.els 1 q.2.2.2.1, .els 1 q.2.2.2.2.1, .ob (.gr 1 q.2.2.2.2.2)], nt := 263, dfs := [] })
    (fun q => q.2.1) (fun q => IsI q.1 q.2.1 /\ q.2.1 <= lo.toNat /\ (kd ≠ 2 -> q.2.2.1 = [0, 0, 0, 0]) /\ (kd = 2 -> WayO true bn bins 0 l (lo - (q.2.1 : Nat)) q.2.2.1) /\ q.2.2.2.1 = lieD (Z2c l1 q.2.2.1) NB /\ HasI (fun n b => hs n b + if n = itN then q.2.2.1.getD b 0 else 0) NB N q.2.2.2.2.1 q.2.2.2.2.2) (lo, lo.toNat, [0, 0, 0, 0], LL1, GE, GN) ⟨hloI, Nat.le_refl _, fun _ => rfl, fun _ => hlw, hLz, hx0⟩ ?_ ?_
   ·exact Zf [0, 1, 2] ⟨by decide, Z9, ⟨rfl, rfl, rfl, trivial⟩, ⟨rfl, rfl, rfl, rfl, rfl, rfl, rfl, rfl, trivial⟩, rfl, rfl⟩
   clear hx0 hlw hloI hLz p2 u6 hLLl u5 LL1;rintro ⟨nI, r, of, LLc, GEc, GNc⟩ ⟨q1, q2, q3, q4, q5, q6⟩;dsimp only at q1 q2 q3 q4 q5 q6
   by_cases k2 : kd = 2
   ·have hc2 : A.cmp .eql kd 2 = true := by rw [k2]; subst hA; rfl
    have hw := q4 k2;have hl1' := hl1e k2
    by_cases hr : r = 0
    ·have hgt : A.cmp .gtr nI 0 = false := by have := q1.eq; subst hA; simp [ar, Z25]; omega
     have hD := hfin of (fun _ => hway of r k2 hr hw) (fun h => absurd k2 h);refine Z2w tokT hA hS [] ?_;cbv;refine bmT hc2 ?_;cbv;refine bmF hgt ?_;cbv;refine Z7 ?_;cbv;refine ⟨hf1, ?_⟩;refine Z8 (A.add i 1, k + 1, cI, Z2c l1 of, (fun n b => hs n b + if n = itN then of.getD b 0 else 0), LLc, GEc, GNc) [0, 1, 2] ⟨hk, hu2, by rw [hcN1] at p1; exact p1, hD, q5, q6⟩ hms ?_;exact ⟨by decide, Z9, ⟨rfl, rfl, rfl, trivial⟩, ⟨rfl, rfl, rfl, rfl, rfl, rfl, trivial⟩, rfl, rfl⟩
    ·obtain ⟨r', hr'⟩ : ∃ r', r = r' + 1 := ⟨r - 1, by omega⟩;rw [hr'] at q1 q2 hw;have hgt : A.cmp .gtr nI 0 = true := by have := q1.eq; subst hA; simp [ar, Z25]; omega
     have hfn : A.fits .i64 (A.sub nI 1) := Z14 hA (Z24 hA nI 1) (by have := q1.eq; omega);have hnI : IsI (A.sub nI 1) r' := ⟨by rw [Z24 hA, q1.eq]; omega⟩;have hms2 : r' < r := by omega
     obtain ⟨own, ho1, ho2, ho3, ho4, ho5, ho6⟩ := hown of r' k2 (hlr2 _ q2) hw;have hLLl : LLc.length = NB := by rw [q5]; exact Z10v rfl hNB4
     obtain ⟨cv, hcv⟩ : ∃ cv : Nat -> Int, cv = fun b => (Z2c l of).getD b 0 := ⟨_, rfl⟩;have hLg : ∀ b, b < NB -> LLc[b]? = some (I (cv b)) := fun b hb => by rw [q5, hl1', hcv]; exact Z10y rfl hb hNB4
     have hNBp : 0 < NB := by omega
     have hitn := hitN k2;have hofl : of.length = 4 := hw.len;have hcvb : ∀ b, 0 <= cv b /\ cv b <= 5 := fun b => by
      rw [hcv];show 0 <= (Z2c l of).getD b 0 /\ (Z2c l of).getD b 0 <= 5;rw [Zha hl4 hofl];have h1 := hw.tk.le b; have h2 := hw.tk.nn b; have h3 := hlok1.hi b;omega
     have hcv4 : 0 < cv own := by rw [hcv]; exact ho4
     have hcv5 : ∀ x, x < own -> bins.getD x 0 = bn -> cv x <= 0 := fun x hx h => by
      have := ho5 x hx;rw [hcv];show (Z2c l of).getD x 0 <= 0;exact Int.not_lt.1 fun g => this ⟨h, g⟩
     obtain ⟨hsO, hhsO⟩ : ∃ hsO : Nat -> Nat -> Int, hsO = fun n b => hs n b + if n = itN then of.getD b 0 else 0 := ⟨_, rfl⟩
     rw [<- hhsO] at q6;obtain ⟨of2, hof2⟩ : ∃ of2, of2 = of.set own (of.getD own 0 + 1) := ⟨_, rfl⟩;rw [<- hof2] at ho6;have hof2g : ∀ b, of2.getD b 0 = if own = b then of.getD own 0 + 1 else of.getD b 0 := fun b => by rw [hof2]; exact Z1r _ _ _ _ (by rw [hofl]; omega)
     have hLL2 : LLc.set own (I (cv own - 1)) = lieD (Z2c l1 of2) NB := by
      rw [q5, Z11c _ ho2, hl1', hcv, hof2, <- Z127 hl4 hofl (by omega)]
     have hhb2 : 0 <= hsO itN own /\ hsO itN own <= 1000 := by
      rw [hhsO];have h1 := hhb itN own; have h2 := hw.tk.nn own; have h3 := hw.tk.le own; have h4 := hlok1.hi own;show 0 <= hs itN own + (if itN = itN then of.getD own 0 else 0) /\ hs itN own + (if itN = itN then of.getD own 0 else 0) <= 1000;rw [if_pos rfl]; omega
     have hhs2 : ∀ n b, (if n = itN /\ b = own then hsO itN own + 1 else hsO n b) = hs n b + if n = itN then of2.getD b 0 else 0 := fun n b => by
      rw [hhsO, hof2g]
      by_cases e1 : n = itN
      ·subst e1
       by_cases e2 : own = b
       ·subst e2; rw [if_pos ⟨rfl, rfl⟩, if_pos rfl, if_pos rfl]; simp only [if_true]; omega
       ·rw [if_neg (fun h => e2 h.2.symm), if_pos rfl, if_neg e2]; simp only [if_true]
      ·rw [if_neg (fun h => e1 h.1), if_neg e1]; simp only [e1, if_false]
     have hbcy : ∀ b bI, b <= own -> IsI bI b -> A.cmp .lss bI cI = true := fun b bI h h2 => by have e1 := h2.eq; have e2 := p1.eq; subst hA; simp [ar, Z25]; omega
     refine Z2w tokT hA hS [] ?_;cbv;refine bmT hc2 ?_;cbv;refine bmT hgt ?_;cbv;refine Zb hS ?_;refine Za (α := Int × Nat) (fun q => { env := [(3, .cb (.agg [I ins, .sl 1 FX, .sl 5 MX]) 0), (8, .sl 1 BL), (9, .o 0 1 NB), (10, .o 1 1 N), (12, I cI), (13, I i), (14, .cb (.agg [I kd, I bn, I it, I lo, I hi]) 0), (15, I nI), (16, I q.1)], H := [.els 1 LLc, .els 1 GEc, .ob (.gr 1 GNc)], nt := 263, dfs := [] })
      (fun q => own - q.2) (fun q => q.2 <= own /\ IsI q.1 q.2) (0, 0) ⟨Nat.zero_le _, ⟨rfl⟩⟩ ?_ ?_
     ·exact Zf [0, 1, 2] ⟨by decide, Z9, ⟨rfl, rfl, rfl, trivial⟩, ⟨rfl, rfl, rfl, rfl, rfl, rfl, rfl, rfl, rfl, trivial⟩, rfl, rfl⟩
     rintro ⟨bI, b⟩ ⟨y1, y2⟩;dsimp only at y1 y2;have hbc := hbcy b bI y1 y2;have hbN : b < NB := by omega
     obtain ⟨bv, hbv⟩ : ∃ bv, bv = bins.getD b 0 := ⟨_, rfl⟩;have gB := Z18 hA y2 (show BL[b]? = some (I bv) by rw [hbv]; exact hBg b hbN);have iB := Z1b hA hBl y2 hbN;have iL : A.inb bI NB := Z4o hA y2 hbN;have hfb := Zy hA y2 (by omega);have hy2 := Zz hA y2
     by_cases hb : b = own
     ·obtain ⟨x, hx⟩ : ∃ x, x = cv own := ⟨_, rfl⟩;rw [<- hx] at hcv4 hLL2;have gL := Z18 hA y2 (show LLc[b]? = some (I x) by rw [hb, hx]; exact hLg own ho2);have e1 : A.cmp .eql bv bn = true := by rw [hbv, hb, ho3]; subst hA; simp [ar, Z25]
      have e2 : A.cmp .gtr x 0 = true := by subst hA; simp [ar, Z25]; exact hcv4
      have fx : A.fits .i64 (A.sub x 1) := Z14 hA (Z24 hA x 1) (by have := hcvb own; omega);have hLS : A.set LLc (A.tn bI) (I (A.sub x 1)) = lieD (Z2c l1 of2) NB := by rw [Z7n hA y2 rfl, hb, Z24 hA]; exact hLL2
      obtain ⟨xs, x1', x2', x3', x4'⟩ := q6.p hNBp;obtain ⟨row, hrow⟩ : ∃ row, row = (Z10m hsO NB N).getD itN [] := ⟨_, rfl⟩;have hrF : row = rowF hsO NB itN := by rw [hrow]; exact Z10n hitn
      have hrl : NB = row.length := by rw [hrF, Z10o]
      obtain ⟨v, hv⟩ : ∃ v, v = hsO itN own := ⟨_, rfl⟩;rw [<- hv] at hhb2 hhs2;have gR := Z18 hA y2 (show row[b]? = some (I v) by rw [hrF, hb, hv]; exact Z10u ho2);have fv : A.fits .i64 (A.add v 1) := Z14 hA (Z58 hA v 1) (by omega);obtain ⟨es, hes⟩ : ∃ es, es = (Z3f xs (Z10m hsO NB N) 0).set itN (.o 3 1 NB) := ⟨_, rfl⟩;obtain ⟨gn, hgn⟩ : ∃ gn, gn = (Z3t xs (Z10m hsO NB N) 0).set itN (xs.getD itN Z5t, none) := ⟨_, rfl⟩;have het : es[itN]? = some (.o 3 1 NB) := by rw [hes, List.getElem?_set_self (by rw [Z4p, x1']; exact hitn)]
      have iE : A.inb it N := Z4o hA hitI hitn;have gE := Z18 hA hitI het;have yinb2 : A.inb bI NB := iL;obtain ⟨hs2, hhs3⟩ : ∃ hs2 : Nat -> Nat -> Int, hs2 = fun n' b' => if n' = itN /\ b' = own then v + 1 else hsO n' b' := ⟨_, rfl⟩
      obtain ⟨row2, hrow2'⟩ : ∃ row2, row2 = A.set row (A.tn bI) (I (A.add v 1)) := ⟨_, rfl⟩;have hrow2 := hrow2'.symm;have hrow3 : row2 = (rowF hsO NB itN).set own (I (v + 1)) := by rw [hrow2', Z7n hA y2 rfl, hb, Z58 hA, hrF]
      have hr2l : row2.length = NB := by rw [hrow3, List.length_set, Z10o]
      have hr0 : 0 < row2.length := by rw [hr2l]; exact hNBp
      have hfr : FrL row2 := by rw [hrow3, Z11a ho2]; exact Z11m _ _ _
      have hst : ∀ j, (Z10m hs2 NB N).getD j [] = if j = itN then row2 else (Z10m hsO NB N).getD j [] := fun j => by rw [hhs3, hrow3]; exact Z11s hitn ho2 (v + 1) j
      have hes2 : es = (Z3f xs (Z10m hsO NB N) 0).set itN (.o 3 1 row2.length) := by rw [hr2l]; exact hes
      have hr2' : r' <= lo.toNat := by omega
      have hHas : ∀ xs' : List Value, GridOk xs' (Z10m hs2 NB N) -> xs'.length = xs.length -> HasI (fun n b => hs n b + if n = itN then of2.getD b 0 else 0) NB N (Z3f xs' (Z10m hs2 NB N) 0) (Z3t xs' (Z10m hs2 NB N) 0) := fun xs' h1 h2 => by
       have e : hs2 = fun n b => hs n b + if n = itN then of2.getD b 0 else 0 := by rw [hhs3]; funext n b; exact hhs2 n b
       rw [<- e];exact ⟨fun _ => ⟨xs', h2.trans x1', h1, rfl, rfl⟩, fun h => absurd h (by omega)⟩
      rw [x3', x4'];refine Ziq (Zh3 x2' (by rw [x1']; exact hitn) (Nat.zero_le _) hrow ?_);rw [<- hrl, <- hes, <- hgn];refine Z7 ?_;refine Z2w tokT hA hS [] ?_;cbv;refine bmT hbc ?_;cbv;refine Z5j tokT hA hS [6] [0, 1, 2, 3, 4, 5, 6, 7, 8, 9, 10, 11, 12, 13] rfl rfl fun Dk hD => ?_;cbv;refine ⟨iB, ⟨_, gB, ?_⟩⟩;cbv;refine Z9n tokT hA hD [] (.v (.bool true)) rfl rfl rfl rfl rfl rfl (congrArg (fun b => D.v (.bool b)) e1) ?_;cbv;refine ⟨iL, ⟨_, gL, ?_⟩⟩;cbv;refine bmT e2 ?_;cbv;refine ⟨iL, ⟨_, gL, ?_⟩⟩;cbv;refine ⟨fx, iL, ⟨⟨_, gL, ?_⟩⟩⟩;cbv;refine ⟨iE, ⟨_, gE, ?_⟩⟩;cbv;refine ⟨yinb2, ⟨_, gR, ?_⟩⟩;cbv;refine ⟨fv, yinb2, ⟨⟨_, gR, ?_⟩⟩⟩;cbv;refine Z39 3 rfl hrow2 ?_;refine Z11r (sl := 10) (n0 := N) x2' (by rw [x1']; exact hitn) rfl hr0 hfr hst hes2 hgn fun xs' hok' hl' => ?_;obtain ⟨GE', hGE'⟩ : ∃ GE', GE' = Z3f xs' (Z10m hs2 NB N) 0 := ⟨_, rfl⟩;obtain ⟨GN', hGN'⟩ : ∃ GN', GN' = Z3t xs' (Z10m hs2 NB N) 0 := ⟨_, rfl⟩;have hHas' := hHas xs' hok' hl';rw [<- hGE', <- hGN'] at hHas' ⊢;refine Z7 ?_;cbv;refine ⟨hfn, ?_⟩;refine Z8 (A.sub nI 1, r', of2, A.set LLc (A.tn bI) (I (A.sub x 1)), GE', GN') [0, 1, 2] ⟨hnI, hr2', fun h => absurd k2 h, fun _ => ho6, hLS, hHas'⟩ hms2 ?_;exact ⟨by decide, Z9, ⟨rfl, by rw [hGE']; rfl, by rw [hGN']; rfl, trivial⟩, ⟨rfl, rfl, rfl, rfl, rfl, rfl, rfl, rfl, trivial⟩, rfl, rfl⟩
     ·have hbo : b < own := by omega
      have hb1 : b + 1 <= own := hbo;have hms3 : own - (b + 1) < own - b := by omega
      by_cases hbe : bv = bn
      ·obtain ⟨x, hx⟩ : ∃ x, x = cv b := ⟨_, rfl⟩;have gL := Z18 hA y2 (show LLc[b]? = some (I x) by rw [hx]; exact hLg b hbN);have hx0 := hcv5 b hbo (by rw [<- hbv]; exact hbe);rw [<- hx] at hx0;have e1 : A.cmp .eql bv bn = true := by rw [hbe]; subst hA; simp [ar, Z25]
       have e2 : A.cmp .gtr x 0 = false := by subst hA; simp [ar, Z25]; exact hx0
       refine Z2w tokT hA hS [] ?_;cbv;refine bmT hbc ?_;cbv;refine Z5j tokT hA hS [6] [0, 1, 2, 3, 4, 5, 6, 7, 8, 9, 10, 11, 12, 13] rfl rfl fun Dk hD => ?_;cbv;refine ⟨iB, ⟨_, gB, ?_⟩⟩;cbv;refine Z9n tokT hA hD [] (.v (.bool true)) rfl rfl rfl rfl rfl rfl (congrArg (fun b => D.v (.bool b)) e1) ?_;cbv;refine ⟨iL, ⟨_, gL, ?_⟩⟩;cbv;refine bmF e2 ?_;cbv;refine ⟨hfb, ?_⟩;refine Z8 (A.add bI 1, b + 1) [0, 1, 2] ⟨hb1, hy2⟩ hms3 ?_;exact ⟨by decide, Z9, ⟨rfl, rfl, rfl, trivial⟩, ⟨rfl, rfl, rfl, rfl, rfl, rfl, rfl, rfl, rfl, trivial⟩, rfl, rfl⟩
      ·have e1 : A.cmp .eql bv bn = false := by subst hA; simp [ar, Z25]; exact hbe
       refine Z2w tokT hA hS [] ?_;cbv;refine bmT hbc ?_;cbv;refine Z5j tokT hA hS [6] [0, 1, 2, 3, 4, 5, 6, 7, 8, 9, 10, 11, 12, 13] rfl rfl fun Dk hD => ?_;cbv;refine ⟨iB, ⟨_, gB, ?_⟩⟩;cbv;refine Z9n tokT hA hD [] (.v (.bool false)) rfl rfl rfl rfl rfl rfl (congrArg (fun b => D.v (.bool b)) e1) ?_;cbv;refine ⟨hfb, ?_⟩;refine Z8 (A.add bI 1, b + 1) [0, 1, 2] ⟨hb1, hy2⟩ hms3 ?_;exact ⟨by decide, Z9, ⟨rfl, rfl, rfl, trivial⟩, ⟨rfl, rfl, rfl, rfl, rfl, rfl, rfl, rfl, rfl, trivial⟩, rfl, rfl⟩
   ·have hc2 : A.cmp .eql kd 2 = false := by subst hA; simp [ar, Z25]; exact k2
    have hD := hfin of (fun h => absurd h k2) q3;refine Z2w tokT hA hS [] ?_;cbv;refine bmF hc2 ?_;cbv;refine Z7 ?_;cbv;refine ⟨hf1, ?_⟩;refine Z8 (A.add i 1, k + 1, cI, Z2c l1 of, (fun n b => hs n b + if n = itN then of.getD b 0 else 0), LLc, GEc, GNc) [0, 1, 2] ⟨hk, hu2, by rw [hcN1] at p1; exact p1, hD, q5, q6⟩ hms ?_;exact ⟨by decide, Z9, ⟨rfl, rfl, rfl, trivial⟩, ⟨rfl, rfl, rfl, rfl, rfl, rfl, trivial⟩, rfl, rfl⟩
  have hkm := hno c;have hLLl : LL.length = NB := by rw [u5]; exact Z10v ((u4.ok hok).1.len) hNB4
  have hDe : DetS jF jF.moves.length l hs := by rw [hmlen, <- hkm]; exact u4
  have hRe := hDe.rest;have hNo := hDe.note;obtain ⟨hlok, -, hhb⟩ := hDe.ok hok;have hl4 : l.length = 4 := hlok.len;have hNBj : NB = (Z6 jF.moves).length := by rw [hNB, hbins]
  have hNj : IsI jF.ins N := by rw [hiF]; exact hN
  have hHold := fun Q => hmdF.holds Q;have hRest := fun Q => hmdF.rest Q;have hamt := fun (t b : Nat) (ti bi : Int) (ht : IsI ti t) (hb : IsI bi b) (h1 : t < N) (h2 : b < NB) Q => hmdF.amount hNBj ht hb h1 h2 Q;have n00 : A.cmp .neq 0 0 = false := by subst hA; rfl
  cbv;refine Z60 (a := { env := [(3, .cb (.agg [I ins, .sl 1 FX, .sl 5 MX]) 0), (8, .sl 1 BL), (9, .o 0 1 NB), (10, .o 1 1 N)], H := [.els 1 LL, .els 1 GE, .ob (.gr 1 GN)], nt := 263, dfs := [] }) [0, 1, 2] ⟨by decide, Z9, ⟨rfl, rfl, rfl, trivial⟩, ⟨rfl, rfl, rfl, rfl, trivial⟩, rfl, rfl⟩ ?_;refine Z11x u6 (fun es bg => ⟨by decide, Z9, ⟨rfl, rfl, rfl, trivial⟩, ⟨rfl, rfl, rfl, rfl, trivial⟩, rfl, rfl⟩) fun OL GN' hOl hOL => ?_;have eo : A.eqN N (A.len OL) := Ze hA hOl;have el : A.eqN NB (A.len LL) := Ze hA hLLl;refine Z1a hA [0, 1] ?_;cbv;refine ⟨el, eo, ?_⟩;refine Z7 ?_;cbv;refine Z4 hS [.agg [I ins, .sl 1 FX, .sl 5 MX]] [] [] rfl rfl rfl rfl rfl rfl rfl rfl (by decide) trivial (hHold _ fun HL hHL => ?_);have hHT := Z122 hNj hNBj hHL;have hHl := hHT.len;refine Z3 tokT hA hS ?_;cbv;refine Z4 hS [.agg [I ins, .sl 1 FX, .sl 5 MX]] [] [] rfl rfl rfl rfl rfl rfl rfl rfl (by decide) trivial (hRest _ fun KL hKL => ?_);have hRT := Z123 hNBj hKL;have hKl := hRT.len;have hl1 : A.cmp .neq (A.oi (A.len HL)) ins = false := by rw [Z5a hA hHl, hN.eq]; subst hA; simp [ar, Z25]
  have hl2 : A.cmp .neq (A.oi (A.len KL)) (A.oi (A.len BL)) = false := by rw [Z5a hA hKl, Z5a hA hBl]; subst hA; simp [ar, Z25]
  refine Z3 tokT hA hS ?_;cbv;refine bmF n00 ?_;cbv;refine bmF n00 ?_;cbv;refine bmF hl1 ?_;cbv;refine bmF hl2 ?_;cbv;refine Zb hS ?_;refine Za (α := Int × Nat) (fun q => { env := [(3, .cb (.agg [I ins, .sl 1 FX, .sl 5 MX]) 0), (8, .sl 1 BL), (9, .sl 1 LL), (10, .sl 1 OL), (17, .sl 1 HL), (19, .sl 2 KL), (21, I q.1)], H := [], nt := 263, dfs := [] })
   (fun q => NB - q.2) (fun q => q.2 <= NB /\ IsI q.1 q.2) (0, 0) ⟨Nat.zero_le _, ⟨rfl⟩⟩ ?_ ?_
  ·exact Zf [] ⟨by decide, Z9, trivial, ⟨rfl, rfl, rfl, rfl, rfl, rfl, rfl, trivial⟩, rfl, rfl⟩
  rintro ⟨bI, b⟩ ⟨y1, y2⟩;dsimp only at y1 y2;have hyes : A.cmp .lss bI (A.oi (A.len BL)) = true -> b < NB := fun c => Z31 hA hBl y2 c;have hfb := fun h => Zy hA y2 h;have hy2 := Zz hA y2;refine Z2w tokT hA hS [] ?_;cbv;refine bm (fun c => ?_) (fun c => ?_)
  ·have hb := hyes c;have hfb := hfb (by omega);have hms : NB - (b + 1) < NB - b := by omega
   obtain ⟨v, hv⟩ : ∃ v, v = l.getD b 0 := ⟨_, rfl⟩;have iK := Z1b hA hKl y2 hb;have gK := Z18 hA y2 (show KL[b]? = some (.agg [I v, I v]) by
    obtain ⟨r, hr1, hr2⟩ := hRT.row b hb
    have e : r = Zs ((Zd jF Zn 0).map fun s => s.1.getD b 0) := by
     unfold Z4c at hr1
     rw [List.getElem?_map, List.getElem?_range (by omega)] at hr1
     exact (Option.some.inj hr1).symm
    rw [hr2, e, hRe b, hv])
   have iL := Z1b hA hLLl y2 hb;have gL := Z18 hA y2 (show LL[b]? = some (I v) by rw [u5, hv]; exact Z10y hl4 hb hNB4);have hne : A.bnot (A.leq [v, v] [v, v]) = false := by subst hA; simp [ar]
   cbv;refine Z16 tokT hA hS [0, 1, 2, 3, 4, 5, 6, 7, 8, 9, 10, 11, 12, 13] rfl rfl fun Dk hD => ?_;cbv;refine ⟨iK, ⟨_, gK, ?_⟩⟩;cbv;refine ⟨iL, ⟨_, gL, ?_⟩⟩;cbv;refine ⟨iL, ⟨_, gL, ?_⟩⟩;cbv;refine Zq hA hD [I v, I v] [] [] rfl rfl rfl rfl rfl rfl rfl rfl rfl rfl rfl (by decide) trivial (lTo v v _ ⟨by cbv; repeat' (first | exact trivial | exact Need.mk ⟨_, gK, rfl⟩ | exact Need.mk ⟨_, gL, rfl⟩ | refine ⟨?_, ?_⟩), Zx tokT hA hD ?_⟩);cbv;refine FlatEq.mk ⟨[v, v], [v, v], rfl, rfl, rfl, rfl, ?_⟩;cbv;refine bmF hne ?_;cbv;refine Zb hS ?_;refine Za (α := Int × Nat) (fun q => { env := [(3, .cb (.agg [I ins, .sl 1 FX, .sl 5 MX]) 0), (8, .sl 1 BL), (9, .sl 1 LL), (10, .sl 1 OL), (17, .sl 1 HL), (19, .sl 2 KL), (21, I bI), (22, I q.1)], H := [], nt := 263, dfs := [] })
    (fun q => N - q.2) (fun q => q.2 <= N /\ IsI q.1 q.2) (0, 0) ⟨Nat.zero_le _, ⟨rfl⟩⟩ ?_ ?_
   ·exact Zf [] ⟨by decide, Z9, trivial, ⟨rfl, rfl, rfl, rfl, rfl, rfl, rfl, rfl, trivial⟩, rfl, rfl⟩
   rintro ⟨nI, n⟩ ⟨z1, z2⟩;dsimp only at z1 z2;have hyes2 : A.cmp .lss nI ins = true -> n < N := fun c => by have := xlt hA c; have := hN.eq; have := z2.eq; omega
   refine Z2w tokT hA hS [] ?_;cbv;refine bm (fun c2 => ?_) (fun c2 => ?_)
   ·have hn := hyes2 c2;have hms2 : N - (n + 1) < N - n := by omega
    have hfn := Zy hA z2 (by omega);have hz2 := Zz hA z2;obtain ⟨w, hw⟩ : ∃ w, w = hs n b := ⟨_, rfl⟩;have hwb := hhb n b;obtain ⟨R, hR1, hR2, hR3⟩ := hHT.row n hn;obtain ⟨vd, hvd⟩ : ∃ vd, vd = Z2i (w, w) := ⟨_, rfl⟩;have hR4 := hR3 b hb;rw [hNo n b, <- hw, <- hvd] at hR4;rw [<- hw] at hwb;obtain ⟨O, hO⟩ : ∃ O, O = rowF hs NB n := ⟨_, rfl⟩;have hO1 := hOL n hn;rw [<- hO] at hO1;have hO2 : O.length = NB := by rw [hO, Z10o]
    have hO3 : O[b]? = some (I w) := by rw [hO, hw]; exact Z10u hb
    have iH := Z1b hA hHl z2 hn;have gH := Z18 hA z2 hR1;have iR := Z1b hA hR2 y2 hb;have gR := Z18 hA y2 hR4;have iO := Z1b hA hOl z2 hn;have gO := Z18 hA z2 hO1;have iP := Z1b hA hO2 y2 hb;have gP := Z18 hA y2 hO3;have hlR : A.cmp .neq (A.oi (A.len R)) (A.oi (A.len BL)) = false := by rw [Z5a hA hR2, Z5a hA hBl]; subst hA; simp [ar, Z25]
    have hne2 : A.bnot (A.leq [w, w] [w, w]) = false := by subst hA; simp [ar]
    have hmn : vd = if A.min 1 w = 1 then 1 else if A.min 1 w = 0 then 2 else 3 := by
     have e := Zir hA 1 w;subst hA;rw [hvd, e];unfold Z2i;dsimp only
     by_cases h0 : 0 < w
     ·rw [if_pos h0, if_pos (by omega)]
     ·rw [if_neg h0, if_pos (by omega), if_neg (by omega), if_pos (by omega)]
    have hvv : A.cmp .neq vd vd = false := by subst hA; simp [ar, Z25]
    have key : ∀ lo hi, lo = (Z4d jF (Z2v (n : Int) b)).1 -> hi = (Z4d jF (Z2v (n : Int) b)).2 -> lo = w /\ hi = w := fun lo hi h1 h2 => by rw [hNo n b] at h1 h2; exact ⟨h1.trans hw.symm, h2.trans hw.symm⟩
    cbv;refine Z4 hS [.agg [I ins, .sl 1 FX, .sl 5 MX], I nI, I bI] [] [] rfl rfl rfl rfl rfl rfl rfl rfl (by decide) trivial (hamt n b nI bI z2 y2 hn hb _ fun lo hi h1 h2 h3 => ?_);obtain ⟨k1, k2⟩ := key lo hi h1 h2;rw [k1, k2];refine Z3 tokT hA hS ?_;cbv;refine Z16 tokT hA hS [0, 1, 2, 3, 4, 5, 6, 7, 8, 9, 10, 11, 12, 13, 14, 15, 16, 17, 18, 19, 20, 21, 22, 23, 24, 25, 26, 27, 28, 29, 30, 31, 32, 33, 34, 35, 36, 37, 38, 39, 40, 41, 42, 43, 44, 45, 46, 47, 48, 49] rfl rfl fun Dk2 hD2 => ?_;cbv;refine bmF n00 ?_;cbv;refine ⟨iH, ⟨_, gH, ?_⟩⟩;cbv;refine bmF hlR ?_;cbv;refine ⟨iO, ⟨_, gO, ?_⟩⟩;cbv;refine ⟨iP, ⟨_, gP, ?_⟩⟩;cbv;refine ⟨iO, ⟨_, gO, ?_⟩⟩;cbv;refine ⟨iP, ⟨_, gP, ?_⟩⟩;cbv;refine Zbm hA hD2 (b := false) rfl rfl rfl rfl rfl rfl rfl rfl rfl rfl rfl (fun _ => ⟨[], _, [I w, I w], [], [], rfl, rfl, rfl, by decide, trivial, lTo w w _ ⟨by cbv; repeat' (first | exact trivial | exact Need.mk ⟨_, gH, rfl⟩ | exact Need.mk ⟨_, gO, rfl⟩ | exact Need.mk ⟨_, gP, rfl⟩ | exact Need.mk ⟨_, gR, rfl⟩ | exact rfl | exact FlatEq.mk ⟨[w, w], [w, w], rfl, rfl, rfl, rfl, rfl⟩ | refine ⟨?_, ?_⟩), Zx tokT hA hD2 ?_⟩⟩) (fun h => absurd rfl h);cbv;refine FlatEq.mk ⟨[w, w], [w, w], rfl, rfl, rfl, rfl, ?_⟩;cbv;refine bmF hne2 ?_;cbv;refine ⟨iH, ⟨_, gH, ?_⟩⟩;cbv;refine ⟨iR, ⟨_, gR, ?_⟩⟩;cbv;refine ⟨iO, ⟨_, gO, ?_⟩⟩;cbv;refine ⟨iP, ⟨_, gP, ?_⟩⟩;cbv;refine Zbm hA hD2 (b := false) rfl rfl rfl rfl rfl rfl rfl rfl rfl rfl rfl (fun _ => ⟨[], _, [I (A.min 1 w), I 1], [], [], rfl, rfl, rfl, by decide, trivial, Z12f (A.min 1 w) vd hmn _ ⟨by cbv; repeat' (first | exact trivial | exact Need.mk ⟨_, gH, rfl⟩ | exact Need.mk ⟨_, gO, rfl⟩ | exact Need.mk ⟨_, gP, rfl⟩ | exact Need.mk ⟨_, gR, rfl⟩ | exact rfl | exact FlatEq.mk ⟨[w, w], [w, w], rfl, rfl, rfl, rfl, rfl⟩ | refine ⟨?_, ?_⟩), Zx tokT hA hD2 ?_⟩⟩) (fun h => absurd rfl h);cbv;refine bmF hvv ?_;cbv;refine ⟨hfn, ?_⟩;refine Z8 (A.add nI 1, n + 1) [] ⟨hn, hz2⟩ hms2 ?_;exact ⟨by decide, Z9, trivial, ⟨rfl, rfl, rfl, rfl, rfl, rfl, rfl, rfl, trivial⟩, rfl, rfl⟩
   ·cbv;refine Z7 ?_;cbv;refine ⟨hfb, ?_⟩;refine Z8 (A.add bI 1, b + 1) [] ⟨hb, hy2⟩ hms ?_;exact ⟨by decide, Z9, trivial, ⟨rfl, rfl, rfl, rfl, rfl, rfl, rfl, trivial⟩, rfl, rfl⟩
  ·cbv;refine Z7 ?_;cbv;refine Z4 hS [] [] [] rfl rfl rfl rfl rfl rfl rfl rfl (by decide) trivial (Zov _ ?_);refine Z3 tokT hA hS ?_;cbv;exact Z2 [] (by decide) Z9 (H' := []) (d' := .v (.bool true)) trivial rfl (Z1 hq)
end Go.Proofs.Ytecfpfhkicapeaa

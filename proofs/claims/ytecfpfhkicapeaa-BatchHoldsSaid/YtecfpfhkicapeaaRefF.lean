/- Part RefF of the proofs about the benches of the accordion maker: see the last text of the claim for what is proved. -/
import Derived.Test.YtecfpfhkicapeaaRefD
import Derived.Test.YtecfpfhkicapeaaMachE
set_option linter.unusedVariables false
set_option linter.unusedSimpArgs false
set_option linter.unnecessarySimpa false
set_option linter.constructorNameAsVariable false

namespace Go.Proofs.Ytecfpfhkicapeaa
open Go Go.Abs Go.Proofs Go.Batch
def Z2z (N : Nat) (vg : Nat -> Nat -> Int) (b k : Nat) : List (List D) := (List.range N).map fun i => Z75 (vg i) (if i < k then b + 1 else b)
theorem Z8b {N : Nat} {vg : Nat -> Nat -> Int} {b k i : Nat} (h : i < N) : (Z2z N vg b k).getD i [] = Z75 (vg i) (if i < k then b + 1 else b) := by
 rw [List.getD_eq_getElem?_getD]; simp [Z2z, h]
theorem Zi1 {N : Nat} {vg : Nat -> Nat -> Int} {b k i : Nat} (h : N <= i) : (Z2z N vg b k).getD i [] = [] := by
 rw [List.getD_eq_getElem?_getD, List.getElem?_eq_none (by simp [Z2z]; exact h)]; rfl
theorem Znn {N : Nat} {vg : Nat -> Nat -> Int} {b k : Nat} (h : k < N) (j : Nat) : (Z2z N vg b (k + 1)).getD j [] = if j = k then (Z2z N vg b k).getD k [] ++ [I (vg k b)] else (Z2z N vg b k).getD j [] := by
 by_cases hj : j < N
 ·rw [Z8b hj, Z8b h, Z8b hj, if_neg (Nat.lt_irrefl k)]
  by_cases e : j = k
  ·subst e;rw [if_pos rfl, if_pos (Nat.lt_succ_self _), Zap]
  ·rw [if_neg e]
   by_cases g : j < k
   ·rw [if_pos g, if_pos (by omega)]
   ·rw [if_neg g, if_neg (by omega)]
 ·rw [Zi1 (i := j) (by omega), if_neg (show ¬ j = k by omega), Zi1 (i := j) (by omega)]
theorem Zqv (N : Nat) (vg : Nat -> Nat -> Int) (b : Nat) : Z2z N vg b N = Z2z N vg (b + 1) 0 := by
 unfold Z2z;refine List.map_congr_left fun i hi => ?_;rw [if_pos (List.mem_range.1 hi), if_neg (Nat.not_lt_zero i)]
theorem Zby (N : Nat) (vg : Nat -> Nat -> Int) : Z2z N vg 0 0 = List.replicate N [] := by
 refine List.ext_getElem? fun j => ?_
 by_cases hj : j < N
 ·simp [Z2z, hj, Z75]
 ·rw [List.getElem?_eq_none (by simp [Z2z]; omega), List.getElem?_eq_none (by simp; omega)]
set_option maxRecDepth 40000 in
set_option maxHeartbeats 16000000 in
theorem Zyv (j : Jn) (hf : j.first.length <= 1152921504606846976) (hm : j.moves.length <= 1152921504606846976) (FL ML : List D) (hF : FL = j.first.map Zv) (hM : ML = j.moves.map mvD) (e : Int) (he : e = Za5 j) (L0 : List D) (hL0 : L0 = okL e ((Z5w j).map fun l => .sl 1 (l.map I))) (Q) (hq : Q (RA.ret (.tup [.sl 1 L0, I e])) []) :
  CallA Try.prog 37 [.agg [I j.ins, .sl 1 FL, .sl 5 ML]] [] Q := by
 obtain ⟨A, hA⟩ : ∃ A, A = ar := ⟨_, rfl⟩;have hchk := fun Q h => Zw1 j hf hm FL ML hF hM e he Q h;obtain ⟨ii, hii⟩ : ∃ ii, ii = j.ins := ⟨_, rfl⟩;rw [<- hii] at hchk ⊢;refine Z38 Z0 hA [] Try.func37 rfl rfl rfl rfl rfl fun S hS => ?_;cbv;refine Z4 hS [.agg [I ii, .sl 1 FL, .sl 5 ML]] [] [] rfl rfl rfl rfl rfl rfl rfl rfl (by decide) trivial (hchk _ ?_);refine Z3 Z0 hA hS ?_;cbv;refine bm (fun c => ?_) (fun c => ?_)
 ·have hne := xne hA c;rw [hL0, Ze9 hne] at hq;cbv;refine Z37 (WkD.tup ⟨WkD.nil, .rfl, trivial⟩ : WkD (.tup [.v (.slice none 0 0), I e]) (.tup [.sl 1 [], I e])) ?_;exact Z2 [] (by decide) Z9 (H' := []) (d' := .tup [.sl 1 [], I e]) trivial rfl (Z1 hq)
 have e0 : e = 0 := by have := Z4t hA c; exact this
 obtain ⟨hj, hst⟩ : JOk j /\ Zc j = true := Zem (he.symm.trans e0);have hb4 := hj.b4;have hi1 := hj.i1;have hi4 := hj.i4;obtain ⟨N, hN⟩ : ∃ N : Nat, IsI j.ins N := ⟨j.ins.toNat, ⟨by omega⟩⟩;have hN4 : N <= 4 := by have := hN.eq; omega
 obtain ⟨NB, hNB⟩ : ∃ NB, NB = (Z6 j.moves).length := ⟨_, rfl⟩;rw [<- hNB] at hb4;obtain ⟨vg, hvg⟩ : ∃ vg : Nat -> Nat -> Int, vg = fun i b => Z2i (Z4d j (Z2v (i : Nat) b)) := ⟨_, rfl⟩;have hfin : ((List.range N).map fun i => D.sl 1 ((Z2z N vg NB 0).getD i [])) = (Z5w j).map fun l => .sl 1 (l.map I) := by
  have : j.ins.toNat = N := by have := hN.eq; omega
  rw [Z5w, this, List.map_map, <- hNB];refine List.map_congr_left fun i hi => ?_;rw [Z8b (List.mem_range.1 hi), if_neg (Nat.not_lt_zero i), hvg];simp [Z75, Function.comp_def]
 have hvd : ∀ b, ∀ XL, XL = [I ((b : Nat) : Int)] -> ∀ Q, (∀ L, L = (List.range N).map (fun k => I (vg k b)) -> Q (RA.ret (.sl 1 L)) []) -> CallA Try.prog 97 [.agg [I j.ins, .sl 1 FL, .sl 5 ML], .sl 1 XL] [] Q := fun b XL hXL Q h =>
  Zi0 j hj FL ML hF hM [(b : Int)] (by show 1 <= 1000000; decide) XL hXL (fun k => vg k b) (fun k hk is no h1 h2 => by rw [hvg]; exact Zqt hj hst b 0 0 hk h1 h2) N hN Q h
 have hbins := fun Q h => Zho j (by have := hj.m10; omega) FL ML hM Q h;rw [hL0, e0, Zd1, <- hfin] at hq;clear hL0 hfin hvg hF hM he;have hnn : A.nneg j.ins := by subst hA; show 0 <= j.ins; omega
 have htn : A.tn j.ins = N := ytn hA hN;have hrm : A.room (A.tn j.ins) 24 := by rw [htn]; exact Zj1 hA (by omega) (by decide)
 have hE0 : A.rep (A.tn j.ins) (.v (.slice none 0 0)) = Z3f (List.replicate N Z5t) (Z2z N vg 0 0) 0 := by
  rw [Zby, Zpv, htn]; subst hA; rfl
 have hok0 : GridOk (List.replicate N Z5t) (Z2z N vg 0 0) := by rw [Zby]; exact Zmr
 have hgn0 : ∀ (j : Nat) (e : Value) (row : List D), (Z3t (List.replicate N Z5t) (Z2z N vg 0 0) 0)[j]? ≠ some (e, some row) := by rw [Zby]; exact fun j e row => Zmq
 rw [<- hii] at hnn htn hrm hE0 hN hvd hbins;cbv;refine ⟨hnn, hrm, ?_⟩;refine Zb hS ?_;refine Za (α := Int × Nat × List Value) (fun q => { env := [(1, .b 0 0), (5, .o 1 1 N), (6, I q.1)], H := [.box (.agg [I ii, .sl 1 FL, .sl 5 ML]), .els 1 (Z3f q.2.2 (Z2z N vg q.2.1 0) 0), .ob (.gr 1 (Z3t q.2.2 (Z2z N vg q.2.1 0) 0))], nt := 48, dfs := [] })
  (fun q => NB - q.2.1) (fun q => IsI q.1 q.2.1 /\ q.2.1 <= NB /\ q.2.2.length = N /\ GridOk q.2.2 (Z2z N vg q.2.1 0)) (0, 0, List.replicate N Z5t) ⟨⟨rfl⟩, Nat.zero_le _, List.length_replicate, hok0⟩ ?_ ?_
 ·refine Z39 1 rfl hE0 ?_;refine Zpw 1 (Z3t (List.replicate N Z5t) (Z2z N vg 0 0) 0) hgn0 ?_;exact Zf [0, 1, 2] ⟨by decide, Z9, ⟨rfl, rfl, rfl, trivial⟩, ⟨rfl, by rw [<- htn]; rfl, rfl, trivial⟩, rfl, rfl⟩
 rintro ⟨bI, b, xs⟩ ⟨u1, u2, u3, u4⟩;dsimp only at u1 u2 u3 u4
 by_cases hb : b < NB
 ·have hf1 := Zy hA u1 (by omega);have hu1 := Zz hA u1;have hms : NB - (b + 1) < NB - b := by omega
  have hXi : [I bI] = [I ((b : Nat) : Int)] := by rw [u1.eq]
  have hvb := fun Q h => hvd b [I bI] hXi Q h;have hend := Zqv N vg b;have hstp := fun k (h : k < N) => Znn (vg := vg) (b := b) h;obtain ⟨GE, hGE⟩ : ∃ GE, GE = Z3f xs (Z2z N vg b 0) 0 := ⟨_, rfl⟩;obtain ⟨GN, hGN⟩ : ∃ GN, GN = Z3t xs (Z2z N vg b 0) 0 := ⟨_, rfl⟩;rw [<- hGE, <- hGN];have hcmp : ∀ n, n = NB -> A.cmp .lss bI (A.oi n) = true := fun n h => by subst hA; rw [h]; have := u1.eq; simp [ar, Z25]; omega
  refine Z2w Z0 hA hS [] ?_;cbv;refine Z4 hS [.agg [I ii, .sl 1 FL, .sl 5 ML]] [] [] rfl rfl rfl rfl rfl rfl rfl rfl (by decide) trivial (hbins _ fun BL hBL => ?_);have hBl : BL.length = NB := by rw [hBL, hNB, List.length_map]
  have hc1 : A.cmp .lss bI (A.oi (A.len BL)) = true := hcmp _ (by rw [Z9m hA hBl]);refine Z3 Z0 hA hS ?_;cbv;refine bmT hc1 ?_;cbv;refine Z26 hS (Z1a hA [3] ?_);cbv;refine ⟨by subst hA; rfl, Z7 ?_⟩;refine Z4 hS [.agg [I ii, .sl 1 FL, .sl 5 ML], .sl 1 [I bI]] [] [] rfl rfl rfl rfl rfl rfl rfl rfl (by decide) trivial (hvb _ fun VL hVL => ?_);have hVl : VL.length = N := by rw [hVL]; simp
  have hVg : ∀ k, k < N -> VL[k]? = some (I (vg k b)) := fun k h => by rw [hVL]; simp [h]
  refine Z3 Z0 hA hS ?_;cbv;refine Zb hS ?_;refine Za (α := Int × Nat × List Value) (fun q => { env := [(1, .b 0 0), (5, .o 1 1 N), (6, I bI), (7, .sl 1 VL), (8, I q.1)], H := [.box (.agg [I ii, .sl 1 FL, .sl 5 ML]), .els 1 (Z3f q.2.2 (Z2z N vg b q.2.1) 0), .ob (.gr 1 (Z3t q.2.2 (Z2z N vg b q.2.1) 0))], nt := 48, dfs := [] })
   (fun q => N - q.2.1) (fun q => IsI q.1 q.2.1 /\ q.2.1 <= N /\ q.2.2.length = N /\ GridOk q.2.2 (Z2z N vg b q.2.1)) (0, 0, xs) ⟨⟨rfl⟩, Nat.zero_le _, u3, u4⟩ ?_ ?_
  ·exact Zf [0, 1, 2] ⟨by decide, Z9, ⟨rfl, by rw [<- hGE]; rfl, by rw [<- hGN]; rfl, trivial⟩, ⟨rfl, rfl, rfl, rfl, rfl, trivial⟩, rfl, rfl⟩
  clear hGE hGN u4 u3;rintro ⟨i, k, xs⟩ ⟨v1, v2, v3, v4⟩;dsimp only at v1 v2 v3 v4
  by_cases hk : k < N
  ·obtain ⟨rows, hrows⟩ : ∃ rows, rows = Z2z N vg b k := ⟨_, rfl⟩;obtain ⟨rows', hrows'⟩ : ∃ rows', rows' = Z2z N vg b (k + 1) := ⟨_, rfl⟩;obtain ⟨r, hr⟩ : ∃ r, r = rows.getD k [] := ⟨_, rfl⟩;obtain ⟨n, hn⟩ : ∃ n, n = r.length := ⟨_, rfl⟩;obtain ⟨x, hx⟩ : ∃ x, x = vg k b := ⟨_, rfl⟩;have hstep : ∀ j, rows'.getD j [] = if j = k then r ++ [I x] else rows.getD j [] := fun j => by
    rw [hrows', hr, hrows, hstp k hk, hx]
   have hn8 : n <= 8 := by
    rw [hn, hr, hrows, Z8b hk, if_neg (Nat.lt_irrefl k)]; simp [Z75]; omega
   have hfi := Zy hA v1 (by omega);have hv1 := Zz hA v1;have hms2 : N - (k + 1) < N - k := by omega
   obtain ⟨es, hes⟩ : ∃ es, es = (Z3f xs rows 0).set k (.o 3 1 n) := ⟨_, rfl⟩;obtain ⟨gn, hgn⟩ : ∃ gn, gn = (Z3t xs rows 0).set k (xs.getD k Z5t, none) := ⟨_, rfl⟩;have het : es[k]? = some (.o 3 1 n) := by rw [hes, List.getElem?_set_self (by rw [Z4p, v3]; exact hk)]
   have i2 := Z4o hA v1 hk;have g2 := Z18 hA v1 het;have gV := Z18 hA v1 (show VL[k]? = some (I x) by rw [hVg k hk, hx]);have iV := Z1b hA hVl v1 hk;have hroom : A.room (A.addN n 1) 8 := by rw [Z2e hA]; exact Zj1 hA (by omega) (by decide)
   have hcy : A.cmp .lss i ii = true := by subst hA; have := v1.eq; have := hN.eq; simp [ar, Z25]; omega
   rw [<- hrows] at v4 ⊢;refine Ziq (Zh3 v4 (by rw [v3]; exact hk) (Nat.zero_le _) hr ?_);rw [<- hn, <- hes, <- hgn];refine Z7 ?_;refine Z2w Z0 hA hS [] ?_;cbv;refine bmT hcy ?_;cbv;refine Z16 Z0 hA hS [0, 1, 2, 3, 4, 5, 6, 7, 8, 9, 10, 11, 12, 13] rfl rfl fun Dk hD => ?_;cbv;refine ⟨i2, ⟨_, g2, ?_⟩⟩;cbv;refine ⟨iV, ⟨_, gV, ?_⟩⟩;cbv;have en : A.eqN n (A.len r) := Ze hA hn.symm;refine ⟨en, Ze hA rfl, hroom, (by repeat' (first | exact trivial | exact Need.mk ⟨_, gV, rfl⟩ | exact Need.mk ⟨_, g2, rfl⟩ | refine ⟨?_, ?_⟩)), ?_⟩;refine ⟨i2, ⟨_, g2, ?_⟩⟩;cbv;refine ⟨hfi, ?_⟩;obtain ⟨r', hr'⟩ : ∃ r', r' = A.app r [I x] := ⟨_, rfl⟩;have hr2 : r' = r ++ [I x] := by rw [hr', Z33 hA]
   have hrl : r'.length = A.addN n 1 := by rw [hr2, Z2e hA, hn]; simp
   have hfr' : FrL r' := by rw [hr2, hr]; exact (v4.fr k).app ⟨fun d hd => by rw [List.mem_singleton.1 hd]; rfl⟩
   have hes2 : A.set es (A.tn i) (.o 5 1 (A.addN n 1)) = (Z3f xs rows 0).set k (.o 5 1 r'.length) := by
    rw [Z7n hA v1 rfl, hes, List.set_set, hrl]
   rw [<- hr2] at hstep;refine Z39 5 rfl hr'.symm ?_;refine Zsc (sl := 5) (n0 := N) v4 (by rw [v3]; exact hk) rfl (by rw [hr2]; simp) hfr' hstep hes2 hgn fun xs' hok' hl' => ?_;rw [hrows'] at hok';refine Z8 (A.add i 1, k + 1, xs') [0, 1, 2] ⟨hv1, hk, hl'.trans v3, hok'⟩ hms2 ?_;exact ⟨by decide, Z9, ⟨rfl, by rw [hrows']; rfl, by rw [hrows']; rfl, trivial⟩, ⟨rfl, rfl, rfl, rfl, rfl, trivial⟩, rfl, rfl⟩
  ·have hkN : k = N := by omega
   have hcn : A.cmp .lss i ii = false := by subst hA; have := v1.eq; have := hN.eq; simp [ar, Z25]; omega
   rw [hkN, hend] at v4 ⊢;obtain ⟨GE, hGE⟩ : ∃ GE, GE = Z3f xs (Z2z N vg (b + 1) 0) 0 := ⟨_, rfl⟩;obtain ⟨GN, hGN⟩ : ∃ GN, GN = Z3t xs (Z2z N vg (b + 1) 0) 0 := ⟨_, rfl⟩;rw [<- hGE, <- hGN];refine Z2w Z0 hA hS [] ?_;cbv;refine bmF hcn ?_;cbv;refine Z7 ?_;cbv;refine ⟨hf1, ?_⟩;refine Z8 (A.add bI 1, b + 1, xs) [0, 1, 2] ⟨hu1, hb, v3, v4⟩ hms ?_;exact ⟨by decide, Z9, ⟨rfl, by rw [hGE]; rfl, by rw [hGN]; rfl, trivial⟩, ⟨rfl, rfl, rfl, trivial⟩, rfl, rfl⟩
 ·have hbN : b = NB := by omega
  have hcmp : ∀ n, n = NB -> A.cmp .lss bI (A.oi n) = false := fun n h => by subst hA; rw [h]; have := u1.eq; simp [ar, Z25]; omega
  rw [hbN] at u4 ⊢;obtain ⟨rows, hrows⟩ : ∃ rows, rows = Z2z N vg NB 0 := ⟨_, rfl⟩;rw [<- hrows] at u4 hq ⊢;obtain ⟨OL, hOL⟩ : ∃ OL : List D, OL = (List.range N).map fun j => .sl 1 (rows.getD j []) := ⟨_, rfl⟩;have hOl : OL.length = N := by rw [hOL]; simp
  rw [<- hOL] at hq;refine Ziq (Zpx (nd := N) u4 u3 (fun es bg => ⟨by decide, Z9, ⟨rfl, rfl, rfl, trivial⟩, ⟨rfl, rfl, rfl, trivial⟩, rfl, rfl⟩) ?_);rw [<- hOL];refine Z7 ?_;refine Z2w Z0 hA hS [] ?_;cbv;refine Z4 hS [.agg [I ii, .sl 1 FL, .sl 5 ML]] [] [] rfl rfl rfl rfl rfl rfl rfl rfl (by decide) trivial (hbins _ fun BL hBL => ?_);have hBl : BL.length = NB := by rw [hBL, hNB, List.length_map]
  have hc1 : A.cmp .lss bI (A.oi (A.len BL)) = false := hcmp _ (by rw [Z9m hA hBl]);refine Z3 Z0 hA hS ?_;cbv;refine bmF hc1 ?_;cbv;refine Z7 ?_;cbv;refine Z1w [1] ?_;cbv;exact ⟨by cases OL <;> exact hOl.symm, Z2 [] (by decide) Z9 (H' := []) (d' := .tup [.sl 1 OL, I 0]) trivial rfl (Z1 hq)⟩
end Go.Proofs.Ytecfpfhkicapeaa

namespace Go.Proofs.Ytecfpfhkicapeaa
open Go Go.Abs Go.Proofs Go.Batch
structure AmI (T : Nat -> Prop) (n : Nat) (lo hi : Int) : Prop where
 bd : ∀ m, m < n -> T m -> lo <= m /\ (m : Int) <= hi
 ex : (lo = 16 /\ hi = -1 /\ ∀ m, m < n -> ¬ T m) ∨ (∃ m : Nat, T m /\ (m : Int) = lo) /\ (∃ m : Nat, T m /\ (m : Int) = hi)
theorem AmI.start (T : Nat -> Prop) : AmI T 0 16 (-1) := ⟨fun m h => absurd h (Nat.not_lt_zero _), .inl ⟨rfl, rfl, fun m h => absurd h (Nat.not_lt_zero _)⟩⟩
theorem AmI.skip {T : Nat -> Prop} {n : Nat} {lo hi : Int} (h : AmI T n lo hi) (hn : ¬ T n) : AmI T (n + 1) lo hi := by
 have key : ∀ m, m < n + 1 -> T m -> m < n := fun m h1 h2 => by
  rcases Nat.lt_or_eq_of_le (Nat.le_of_lt_succ h1) with g | g
  ·exact g
  ·subst g; exact absurd h2 hn
 exact ⟨fun m h1 h2 => h.bd m (key m h1 h2) h2, h.ex.imp (fun g => ⟨g.1, g.2.1, fun m h1 h2 => g.2.2 m (key m h1 h2) h2⟩) id⟩
theorem AmI.next {T : Nat -> Prop} {n : Nat} {lo hi : Int} (h : AmI T n lo hi) (hn : T n) (h16 : n < 16) : AmI T (n + 1) (min lo n) (max hi n) := by
 refine ⟨fun m h1 h2 => ?_, .inr ?_⟩
 ·rcases Nat.lt_or_eq_of_le (Nat.le_of_lt_succ h1) with g | g
  ·have := h.bd m g h2; omega
  ·subst g; omega
 ·rcases h.ex with ⟨e1, e2, -⟩ | ⟨⟨m, m1, m2⟩, ⟨x, x1, x2⟩⟩
  ·exact ⟨⟨n, hn, by omega⟩, ⟨n, hn, by omega⟩⟩
  ·refine ⟨?_, ?_⟩
   ·by_cases g : lo <= (n : Int)
    ·exact ⟨m, m1, by omega⟩
    ·exact ⟨n, hn, by omega⟩
   ·by_cases g : (n : Int) <= hi
    ·exact ⟨x, x1, by omega⟩
    ·exact ⟨n, hn, by omega⟩
theorem AmI.all {S : List (Ste Int)} (hne : S ≠ []) (hs : ∀ s ∈ S, 0 <= s.2 /\ s.2 <= 15) {lo hi : Int} (h : AmI (fun m : Nat => ∃ s ∈ S, s.2 = (m : Int)) 16 lo hi) : Zs (S.map (·.2)) = (lo, hi) := by
 have e : ∀ s ∈ S, ((s.2.toNat : Nat) : Int) = s.2 /\ s.2.toNat < 16 := fun s h => by have := hs s h; omega
 rcases h.ex with ⟨-, -, h0⟩ | ⟨⟨m, ⟨s, hs1, hs2⟩, m2⟩, ⟨x, ⟨t, ht1, ht2⟩, x2⟩⟩
 ·obtain ⟨s, l, es⟩ := List.exists_cons_of_ne_nil hne;have hm : s ∈ S := by rw [es]; exact List.mem_cons_self
  exact absurd ⟨s, hm, (e s hm).1.symm⟩ (h0 _ (e s hm).2)
 ·exact Zli (List.mem_map.2 ⟨s, hs1, hs2.trans m2⟩) (List.mem_map.2 ⟨t, ht1, ht2.trans x2⟩) fun y hy => by
   obtain ⟨u, hu, rfl⟩ := List.mem_map.1 hy;have := h.bd u.2.toNat (e u hu).2 ⟨u, hu, (e u hu).1.symm⟩;rw [(e u hu).1] at this;exact this
set_option maxRecDepth 40000 in
set_option maxHeartbeats 16000000 in
theorem Zyq (j : Jn) (hf : j.first.length <= 1152921504606846976) (hm : j.moves.length <= 1152921504606846976) (FL ML : List D) (hF : FL = j.first.map Zv) (hM : ML = j.moves.map mvD) (inst b : Int) (e : Int) (he : e = Zjd j inst b) (lo hi : Int) (hv : (lo, hi) = Zym j inst b) (Q) (hq : Q (RA.ret (.tup [.agg [I lo, I hi], I e])) []) :
  CallA Try.prog 39 [.agg [I j.ins, .sl 1 FL, .sl 5 ML], I inst, I b] [] Q := by
 obtain ⟨A, hA⟩ : ∃ A, A = ar := ⟨_, rfl⟩;have bT : A.bnot true = false := by subst hA; rfl
 have bF : A.bnot false = true := by subst hA; rfl
 obtain ⟨e1, he1⟩ : ∃ e1, e1 = Zr j := ⟨_, rfl⟩;unfold Zym at hv;have hz : ∀ e', Zjd j inst b = e' -> e' ≠ 0 -> Q (RA.ret (.tup [.agg [I 0, I 0], I e'])) [] := fun e' h1 h2 => by
  rw [if_neg (by rw [h1]; exact h2)] at hv;have a1 : lo = 0 := (Prod.mk.inj hv).1;have a2 : hi = 0 := (Prod.mk.inj hv).2;rw [he.trans h1, a1, a2] at hq;exact hq
 refine Z5 Z0 hA Try.func39 rfl rfl rfl rfl rfl fun S hS => ?_;cbv;refine Z4 hS [.agg [I j.ins, .sl 1 FL, .sl 5 ML]] [] [] rfl rfl rfl rfl rfl rfl rfl rfl (by decide) trivial (Zdo j hf hm FL ML hF hM e1 he1 _ ?_);refine Z3 Z0 hA hS ?_;cbv;refine bm (fun c => ?_) (fun c => ?_)
 ·have hz := hz e1 (by unfold Zjd; rw [if_pos (by rw [<- he1]; exact xne hA c), he1]) (xne hA c);cbv;exact Z2 [] (by decide) Z9 (H' := []) (d' := .tup [.agg [I 0, I 0], I e1]) trivial rfl (Z1 hz)
 have hc0 : Zr j = 0 := he1.symm.trans (Z4t hA c);have hj : JOk j := Z2r hc0;have hi1 := hj.i1;have hi4 := hj.i4;have hj10 := hj.m10;have hb4 := hj.b4;obtain ⟨NB, hNB⟩ : ∃ NB, NB = (Z6 j.moves).length := ⟨_, rfl⟩;rw [<- hNB] at hb4;obtain ⟨b1, hb1⟩ : ∃ b1, b1 = decide (0 <= inst /\ inst <= A.sub j.ins 1) := ⟨_, rfl⟩;have hb1' : b1 = decide (0 <= inst /\ inst <= j.ins - 1) := by rw [hb1, Z24 hA]
 have hfi : A.fits .i64 (A.sub j.ins 1) := Z14 hA (Z24 hA _ 1) (by omega);have hu1 : b1 = false -> Q (RA.ret (.tup [.agg [I 0, I 0], I 3])) [] := fun h => hz 3 (by
  unfold Zjd; rw [if_neg (fun g => g hc0), if_pos (fun g => of_decide_eq_false (hb1'.symm.trans h) g.1)]) (by decide)
 have ht1 : b1 = true -> 0 <= inst /\ inst <= j.ins - 1 := fun h => of_decide_eq_true (hb1'.symm.trans h);have hbin := fun Q => Zho j (by omega) FL ML hM Q;have hlB : ∀ BL : List D, BL = (Z6 j.moves).map I -> A.fits .i64 (A.sub (A.oi (A.len BL)) 1) /\ ∀ b2, b2 = decide (0 <= b /\ b <= A.sub (A.oi (A.len BL)) 1) -> b2 = decide (0 <= b /\ b <= (NB : Int) - 1) := fun BL hBL => by
  have hl : BL.length = NB := by rw [hBL, hNB, List.length_map]
  have e := Z5a hA hl;exact ⟨Z14 hA (Z24 hA _ 1) (by rw [e]; omega), fun b2 h => by rw [h, Z24 hA, e]⟩
 cbv;refine ⟨hfi, ?_⟩;refine Z4 hS [I inst, I 0, I (A.sub j.ins 1)] [] [] rfl rfl rfl rfl rfl rfl rfl rfl (by decide) trivial (Z6f _ _ _ b1 hb1 _ ?_)
 cases b1 with
 | false =>
  have hz := hu1 rfl;refine Z3 Z0 hA hS ?_;cbv;refine bmT bF ?_;cbv;refine Zg hS (f := 42) (b := true) rfl rfl rfl rfl rfl rfl rfl rfl (fun h => Bool.noConfusion h) (fun _ => ?_);refine Z3 Z0 hA hS ?_;cbv;refine Zg hS (f := 99) (b := true) rfl rfl rfl rfl rfl rfl rfl rfl (fun h => Bool.noConfusion h) (fun _ => ?_);refine Z3 Z0 hA hS ?_;cbv;exact Z2 [] (by decide) Z9 (H' := []) (d' := .tup [.agg [I 0, I 0], I 3]) trivial rfl (Z1 hz)
 | true =>
  have hin := ht1 rfl;refine Z3 Z0 hA hS ?_;cbv;refine bmF bT ?_;cbv;refine Zg hS (b := false) rfl rfl rfl rfl rfl rfl rfl rfl (fun _ => ⟨[], _, [.agg [I j.ins, .sl 1 FL, .sl 5 ML]], [], [], rfl, rfl, rfl, by decide, trivial, hbin _ fun BL hBL => ?_⟩) (fun h => absurd rfl h);obtain ⟨hfb, hb2F⟩ := hlB BL hBL;obtain ⟨b2, hb2⟩ : ∃ b2, b2 = decide (0 <= b /\ b <= A.sub (A.oi (A.len BL)) 1) := ⟨_, rfl⟩;have hb2' := hb2F b2 hb2;have hu2 : b2 = false -> Q (RA.ret (.tup [.agg [I 0, I 0], I 3])) [] := fun h => hz 3 (by
   unfold Zjd; rw [if_neg (fun g => g hc0), if_pos (fun g => of_decide_eq_false (hb2'.symm.trans h) (by rw [hNB]; exact g.2))]) (by decide)
  have ht2 : b2 = true -> 0 <= b /\ b <= (NB : Int) - 1 := fun h => of_decide_eq_true (hb2'.symm.trans h);refine Z3 Z0 hA hS ?_;cbv;refine ⟨hfb, ?_⟩;refine Zg hS (b := false) rfl rfl rfl rfl rfl rfl rfl rfl (fun _ => ⟨[], _, [I b, I 0, I (A.sub (A.oi (A.len BL)) 1)], [], [], rfl, rfl, rfl, by decide, trivial, Z6f _ _ _ b2 hb2 _ ?_⟩) (fun h => absurd rfl h);refine Z3 Z0 hA hS ?_;cbv;refine bm (fun c2 => ?_) (fun c2 => ?_)
  ·have hz := hu2 (Zge hA c2);cbv;exact Z2 [] (by decide) Z9 (H' := []) (d' := .tup [.agg [I 0, I 0], I 3]) trivial rfl (Z1 hz)
  have hbb := ht2 (Zb8 hA c2);have hU : Zwa j inst b := ⟨hin, by rw [<- hNB]; exact hbb⟩;obtain ⟨sb, hsb⟩ : ∃ sb, sb = Zc j := ⟨_, rfl⟩;cbv;refine Z4 hS [.agg [I j.ins, .sl 1 FL, .sl 5 ML]] [] [] rfl rfl rfl rfl rfl rfl rfl rfl (by decide) trivial (Za4 j hj FL ML hF hM sb hsb _ ?_);refine Z3 Z0 hA hS ?_
  cases sb with
  | false =>
   have hz := hz 9 (by unfold Zjd; rw [if_neg (fun g => g hc0), if_neg (fun g => g hU), <- hsb]; rfl) (by decide);cbv;refine bmT bF ?_;cbv;exact Z2 [] (by decide) Z9 (H' := []) (d' := .tup [.agg [I 0, I 0], I 9]) trivial rfl (Z1 hz)
  | true =>
  have hst : Zc j = true := hsb.symm;have a0 : Zjd j inst b = 0 := by unfold Zjd; rw [if_neg (fun g => g hc0), if_neg (fun g => g hU), hst]; rfl
  rw [if_pos a0] at hv;obtain ⟨bn, hbn⟩ : ∃ bn, bn = b.toNat := ⟨_, rfl⟩;rw [<- hbn] at hv;have hbI : b = (bn : Int) := by omega
  have hfnd := fun Q h => Zg6 j hj ⟨2, inst, b, []⟩ (by show 0 <= 1000000; decide) FL ML [] hF hM rfl Q h;have hbd := Zbx hj ⟨2, inst, b, []⟩;have hask : Zm ⟨2, inst, b, []⟩ = Z2v inst bn := by rw [hbI]; exact Zw6 inst bn
  have hnote : ∀ lo' hi', AmI (fun m : Nat => ∃ s ∈ Zd j (Zm ⟨2, inst, b, []⟩) 0, s.2 = (m : Int)) 16 lo' hi' -> lo = lo' /\ hi = hi' := fun lo' hi' h => by
   have := h.all (by rw [hask]; exact Z55 hst _) (fun s hs => (hbd s hs).2);rw [hask] at this;have e2 : (lo, hi) = (lo', hi') := hv.trans this;exact ⟨(Prod.mk.inj e2).1, (Prod.mk.inj e2).2⟩
  obtain ⟨T, hT⟩ : ∃ T : Nat -> Prop, T = fun m : Nat => ∃ s ∈ Zd j (Zm ⟨2, inst, b, []⟩) 0, s.2 = (m : Int) := ⟨_, rfl⟩;rw [<- hT] at hfnd hnote;rw [he.trans a0] at hq;unfold Zcy at hfnd;dsimp only at hfnd;clear hask hbd hT hv hz hbI hbn;cbv;refine bmF bT ?_;cbv;refine Z4 hS [.agg [I j.ins, .sl 1 FL, .sl 5 ML], .agg [I 2, I inst, I b, .v (.slice none 0 0)]] [] [] rfl rfl rfl rfl rfl rfl rfl rfl (by decide) trivial (Z4z (as' := [.agg [I j.ins, .sl 1 FL, .sl 5 ML], .agg [I 2, I inst, I b, .sl 1 []]]) ⟨.rfl, WkD.agg ⟨.rfl, .rfl, .rfl, WkD.nil, trivial⟩, trivial⟩ (hfnd _ fun OL hOL => ?_));have hOl : OL.length = 16 := hOL.len;refine Z3 Z0 hA hS ?_;cbv;refine Zb hS ?_;refine Za (α := Int × Nat × Int × Int) (fun z => { env := [(6, .b 0 0), (9, .sl 1 OL), (10, .b 1 0), (11, I z.1)], H := [.box (.agg [I 0, I 0]), .box (.agg [I z.2.2.1, I z.2.2.2])], nt := 64, dfs := [] })
   (fun z => 16 - z.2.1) (fun z => z.2.1 <= 16 /\ IsI z.1 z.2.1 /\ AmI T z.2.1 z.2.2.1 z.2.2.2) (0, 0, 16, -1) ⟨Nat.zero_le _, ⟨rfl⟩, AmI.start T⟩ ?_ ?_
  ·exact Zf [1, 2] ⟨by decide, Z9, ⟨rfl, rfl, trivial⟩, ⟨rfl, rfl, rfl, rfl, trivial⟩, rfl, rfl⟩
  rintro ⟨nI, n, lo0, hi0⟩ ⟨w1, w2, w3⟩;dsimp only at w1 w2 w3;have hyes : A.cmp .lss nI (A.oi (A.len OL)) = true -> n < 16 := fun c => Z31 hA hOl w2 c;have hno : A.cmp .lss nI (A.oi (A.len OL)) = false -> n = 16 := fun c => by have := Z21 hA hOl w2 c; omega
  refine Zi Z0 hA hS ?_;cbv;refine bm (fun c3 => ?_) (fun c3 => ?_)
  ·have hn : n < 16 := hyes c3;obtain ⟨x, hx1, hx2⟩ := hOL.is hn;have gO := Z18 hA w2 hx1;have iO := Z1b hA hOl w2 hn;have hfn := Zy hA w2 (by omega);have hw2 := Zz hA w2;have hms : 16 - (n + 1) < 16 - n := by omega
   have hn1 : n + 1 <= 16 := hn
   cases x with
   | true =>
    have hz : AmI T (n + 1) (A.min lo0 nI) (A.max hi0 nI) := by rw [Zir hA, Zuq hA, w2.eq]; exact w3.next (hx2.1 rfl) hn
    cbv;refine ⟨iO, ⟨_, gO, ?_⟩⟩;cbv;refine ⟨hfn, ?_⟩;refine Z8 (A.add nI 1, n + 1, A.min lo0 nI, A.max hi0 nI) [0, 1] ⟨hn1, hw2, hz⟩ hms ?_;exact ⟨by decide, Z9, ⟨rfl, rfl, trivial⟩, ⟨rfl, rfl, rfl, rfl, trivial⟩, rfl, rfl⟩
   | false =>
    have hz : AmI T (n + 1) lo0 hi0 := w3.skip (fun h => Bool.noConfusion (hx2.2 h));cbv;refine ⟨iO, ⟨_, gO, ?_⟩⟩;cbv;refine ⟨hfn, ?_⟩;refine Z8 (A.add nI 1, n + 1, lo0, hi0) [0, 1] ⟨hn1, hw2, hz⟩ hms ?_;exact ⟨by decide, Z9, ⟨rfl, rfl, trivial⟩, ⟨rfl, rfl, rfl, rfl, trivial⟩, rfl, rfl⟩
  ·have hn := hno c3;rw [hn] at w3;obtain ⟨a1, a2⟩ := hnote lo0 hi0 w3;rw [a1, a2] at hq;cbv;refine Z7 ?_;cbv;exact Z2 [] (by decide) Z9 (H' := []) (d' := .tup [.agg [I lo0, I hi0], I 0]) trivial rfl (Z1 hq)
theorem Zu4 : ∀ g : Fin 16, ar.cmp .neq (ar.bits .and .i64 (g.val : Int) (ar.sub (g.val : Int) 1)) 0 = decide (Z43 (g.val : Int) ≠ 0) := by decide +kernel
theorem Zyr {A : Ar} (hA : A = ar) {x : Int} {n : Nat} (hx : IsI x n) (hn : n < 16) : A.cmp .neq (A.bits .and .i64 x (A.sub x 1)) 0 = decide (Z43 (n : Int) ≠ 0) := by
 subst hA; rw [hx.eq]; exact Zu4 ⟨n, hn⟩
set_option maxRecDepth 40000 in
set_option maxHeartbeats 16000000 in
theorem Zyw (j : Jn) (hf : j.first.length <= 1152921504606846976) (hm : j.moves.length <= 1152921504606846976) (FL ML : List D) (hF : FL = j.first.map Zv) (hM : ML = j.moves.map mvD) (e : Int) (he : e = Za5 j) (L0 : List D) (hL0 : L0 = okL e ((Z6b j).map I)) (Q) (hq : Q (RA.ret (.tup [.sl 1 L0, I e])) []) :
  CallA Try.prog 40 [.agg [I j.ins, .sl 1 FL, .sl 5 ML]] [] Q := by
 obtain ⟨A, hA⟩ : ∃ A, A = ar := ⟨_, rfl⟩;have bT : A.bnot true = false := by subst hA; rfl
 have bF : A.bnot false = true := by subst hA; rfl
 have hchk := fun Q h => Zw1 j hf hm FL ML hF hM e he Q h;obtain ⟨ii, hii⟩ : ∃ ii, ii = j.ins := ⟨_, rfl⟩;rw [<- hii] at hchk ⊢;refine Z5 Z0 hA Try.func40 rfl rfl rfl rfl rfl fun S hS => ?_;cbv;refine Z4 hS [.agg [I ii, .sl 1 FL, .sl 5 ML]] [] [] rfl rfl rfl rfl rfl rfl rfl rfl (by decide) trivial (hchk _ ?_);refine Z3 Z0 hA hS ?_;cbv;refine bm (fun c => ?_) (fun c => ?_)
 ·have hne := xne hA c;rw [hL0, Ze9 hne] at hq;cbv;refine Z37 (WkD.tup ⟨WkD.nil, .rfl, trivial⟩ : WkD (.tup [.v (.slice none 0 0), I e]) (.tup [.sl 1 [], I e])) ?_;exact Z2 [] (by decide) Z9 (H' := []) (d' := .tup [.sl 1 [], I e]) trivial rfl (Z1 hq)
 have e0 : e = 0 := by have := Z4t hA c; exact this
 obtain ⟨hj, hst⟩ : JOk j /\ Zc j = true := Zem (he.symm.trans e0);have hi1 := hj.i1;have hi4 := hj.i4;obtain ⟨N, hN⟩ : ∃ N : Nat, IsI j.ins N := ⟨j.ins.toNat, ⟨by omega⟩⟩;have hN4 : N <= 4 := by have := hN.eq; omega
 have hNe := hN.eq;obtain ⟨v, hv⟩ : ∃ v : Nat -> Int, v = fun i : Nat => Z2i (Zs ((Zd j (Z29 i) 0).map fun s => Z43 s.2)) := ⟨_, rfl⟩;have hfin : (List.range N).map (fun k => I (v k)) = (Z6b j).map I := by
  have : j.ins.toNat = N := by have := hN.eq; omega
  rw [Z6b, this, List.map_map, hv]; rfl
 have hvd : ∀ k : Nat, ∀ kI, IsI kI k -> ∃ T : Nat -> Prop, (∀ Q, (∀ OL, FndV OL T -> Q (RA.ret (.sl 1 OL)) []) -> CallA Try.prog 100 [.agg [I j.ins, .sl 1 FL, .sl 5 ML], .agg [I 3, I kI, I 0, .sl 1 []]] [] Q) /\ ∀ is no : Bool, FlgI T (fun m => decide (Z43 (m : Int) ≠ 0)) 16 is no -> v k = Zgh is no := fun k kI hk => by
  refine ⟨fun m : Nat => ∃ s ∈ Zd j (Zm ⟨3, kI, 0, []⟩) 0, s.2 = (m : Int), fun Q h => Zg6 j hj ⟨3, kI, 0, []⟩ (by show 0 <= 1000000; decide) FL ML [] hF hM rfl Q h, fun is no h => ?_⟩;have hb := Zbx hj ⟨3, kI, 0, []⟩;have e : ∀ s ∈ Zd j (Zm ⟨3, kI, 0, []⟩) 0, ((s.2.toNat : Nat) : Int) = s.2 := fun s hs => by have := hb s hs; omega
  rw [hv];refine Ztt hj hst k ?_ ?_
  ·rw [<- hk.eq, h.is, Za6 (fun s hs => (hb s hs).2)];exact exists_congr fun s => and_congr_right fun hs => by rw [e s hs, decide_eq_true_eq]
  ·rw [<- hk.eq, h.no, Za6 (fun s hs => (hb s hs).2)];exact exists_congr fun s => and_congr_right fun hs => by rw [e s hs, decide_eq_false_iff_not, Classical.not_not]
 rw [hL0, e0, Zd1, <- hfin] at hq;clear hL0 hfin hv hF hM he;rw [<- hii] at hN hNe hvd;cbv;refine Zb hS ?_;refine Za (α := Int × Nat × List D) (fun z => { env := [(1, .b 0 0), (5, .o 1 1 z.2.1), (6, I z.1)], H := [.box (.agg [I ii, .sl 1 FL, .sl 5 ML]), .els 1 z.2.2], nt := 66, dfs := [] })
  (fun z => N - z.2.1) (fun z => z.2.1 <= N /\ IsI z.1 z.2.1 /\ z.2.2 = (List.range z.2.1).map (fun k => I (v k))) (0, 0, []) ⟨Nat.zero_le _, ⟨rfl⟩, rfl⟩ ?_ ?_
 ·refine Z2a 5 1 rfl ?_;exact Zf [0, 1] ⟨by decide, Z9, ⟨rfl, rfl, trivial⟩, ⟨rfl, rfl, rfl, trivial⟩, rfl, rfl⟩
 rintro ⟨kI, k, R⟩ ⟨u1, u2, u3⟩;dsimp only at u1 u2 u3;have hRl : R.length = k := by rw [u3]; simp
 have hk6 : k <= 1000000 := by omega
 have hyes : A.cmp .lss kI ii = true -> k < N := fun c => by have := xlt hA c; have := u2.eq; have := hN.eq; omega
 have hno : A.cmp .lss kI ii = false -> k = N := fun c => by have := Z7x hA c; have := u2.eq; have := hN.eq; omega
 refine Zi Z0 hA hS ?_;cbv;refine bm (fun c => ?_) (fun c => ?_)
 ·have hk := hyes c;have hf1 := Zy hA u2 (by omega);have hu2 := Zz hA u2;have hms : N - (k + 1) < N - k := by omega
  obtain ⟨T, hfnd, hvk⟩ := hvd k kI u2;obtain ⟨vk, hvkI⟩ : ∃ vk, vk = v k := ⟨_, rfl⟩;have hR2 : A.app R [I vk] = (List.range (k + 1)).map (fun k => I (v k)) := by rw [Z33 hA, u3, hvkI, List.range_succ, List.map_append]; rfl
  have hn2 : A.addN k 1 = k + 1 := Z2e hA _ _;rw [<- hvkI] at hvk;obtain ⟨P, hP⟩ : ∃ P : Nat -> Bool, P = fun m : Nat => decide (Z43 (m : Int) ≠ 0) := ⟨_, rfl⟩;have hpm : ∀ x n, IsI x n -> n < 16 -> A.cmp .neq (A.bits .and .i64 x (A.sub x 1)) 0 = P n := fun x n h1 h2 => by rw [hP]; exact Zyr hA h1 h2
  rw [<- hP] at hvk;clear hP hvkI;cbv;refine Z4 hS [.agg [I ii, .sl 1 FL, .sl 5 ML], .agg [I 3, I kI, I 0, .v (.slice none 0 0)]] [] [] rfl rfl rfl rfl rfl rfl rfl rfl (by decide) trivial (Z4z (as' := [.agg [I ii, .sl 1 FL, .sl 5 ML], .agg [I 3, I kI, I 0, .sl 1 []]]) ⟨.rfl, WkD.agg ⟨.rfl, .rfl, .rfl, WkD.nil, trivial⟩, trivial⟩ (hfnd _ fun OL hOL => ?_));have hOl : OL.length = 16 := hOL.len;refine Z3 Z0 hA hS ?_;cbv;refine Zb hS ?_;refine Za (α := Int × Nat × Bool × Bool) (fun z => { env := [(1, .b 0 0), (5, .o 1 1 k), (6, I kI), (7, .sl 1 OL), (8, .v (.bool z.2.2.1)), (9, .v (.bool z.2.2.2)), (10, I z.1)], H := [.box (.agg [I ii, .sl 1 FL, .sl 5 ML]), .els 1 R], nt := 66, dfs := [] })
   (fun z => 16 - z.2.1) (fun z => z.2.1 <= 16 /\ IsI z.1 z.2.1 /\ FlgI T P z.2.1 z.2.2.1 z.2.2.2) (0, 0, false, false) ⟨Nat.zero_le _, ⟨rfl⟩, FlgI.start T P⟩ ?_ ?_
  ·exact Zf [0, 1] ⟨by decide, Z9, ⟨rfl, rfl, trivial⟩, ⟨rfl, rfl, rfl, rfl, rfl, rfl, rfl, trivial⟩, rfl, rfl⟩
  rintro ⟨nI, n, is, no⟩ ⟨w1, w2, w3⟩;dsimp only at w1 w2 w3;have hyes2 : A.cmp .lss nI (A.oi (A.len OL)) = true -> n < 16 := fun c => Z31 hA hOl w2 c;have hno2 : A.cmp .lss nI (A.oi (A.len OL)) = false -> n = 16 := fun c => by have := Z21 hA hOl w2 c; omega
  refine Zi Z0 hA hS ?_;cbv;refine bm (fun c2 => ?_) (fun c2 => ?_)
  ·have hn : n < 16 := hyes2 c2;obtain ⟨b, hb1, hb2⟩ := hOL.is hn;have gO := Z18 hA w2 hb1;have iO := Z1b hA hOl w2 hn;have hfn := Zy hA w2 (by omega);have hw2 := Zz hA w2;have hms2 : 16 - (n + 1) < 16 - n := by omega
   have hn1 : n + 1 <= 16 := hn;have hfs : A.fits .i64 (A.sub nI 1) := Z14 hA (Z24 hA nI 1) (by have := w2.eq; omega);have hb1' := hpm nI n w2 hn;have hbn : A.bnot (A.cmp .neq (A.bits .and .i64 nI (A.sub nI 1)) 0) = !P n := by rw [hb1']; subst hA; rfl
   have hnx : ∀ is' no', is' = (is || (b && P n)) -> no' = (no || (b && !P n)) -> FlgI T P (n + 1) is' no' := fun is' no' h1 h2 => w3.next hb2 h1 h2;rw [<- hbn, <- hb1'] at hnx;clear hb1' hbn w3 hb2 hpm
   cases is with
   | true =>
    cases no with
    | true =>
     have hz := hnx true true rfl rfl;cbv;refine ⟨hfs, hfn, ?_⟩;refine Z8 (A.add nI 1, n + 1, true, true) [0, 1] ⟨hn1, hw2, hz⟩ hms2 ?_;exact ⟨by decide, Z9, ⟨rfl, rfl, trivial⟩, ⟨rfl, rfl, rfl, rfl, rfl, rfl, rfl, trivial⟩, rfl, rfl⟩
    | false =>
     cases b with
     | true =>
      have hz := hnx true _ rfl rfl;cbv;refine ⟨hfs, iO, ⟨_, gO, ?_⟩⟩;cbv;refine ⟨hfn, ?_⟩;refine Z8 (A.add nI 1, n + 1, true, A.bnot (A.cmp .neq (A.bits .and .i64 nI (A.sub nI 1)) 0)) [0, 1] ⟨hn1, hw2, hz⟩ hms2 ?_;exact ⟨by decide, Z9, ⟨rfl, rfl, trivial⟩, ⟨rfl, rfl, rfl, rfl, rfl, rfl, rfl, trivial⟩, rfl, rfl⟩
     | false =>
      have hz := hnx true false rfl rfl;cbv;refine ⟨hfs, iO, ⟨_, gO, ?_⟩⟩;cbv;refine ⟨hfn, ?_⟩;refine Z8 (A.add nI 1, n + 1, true, false) [0, 1] ⟨hn1, hw2, hz⟩ hms2 ?_;exact ⟨by decide, Z9, ⟨rfl, rfl, trivial⟩, ⟨rfl, rfl, rfl, rfl, rfl, rfl, rfl, trivial⟩, rfl, rfl⟩
   | false =>
    cases no with
    | true =>
     cases b with
     | true =>
      have hz := hnx _ true rfl rfl;cbv;refine ⟨hfs, iO, ⟨_, gO, ?_⟩⟩;cbv;refine ⟨hfn, ?_⟩;refine Z8 (A.add nI 1, n + 1, A.cmp .neq (A.bits .and .i64 nI (A.sub nI 1)) 0, true) [0, 1] ⟨hn1, hw2, hz⟩ hms2 ?_;exact ⟨by decide, Z9, ⟨rfl, rfl, trivial⟩, ⟨rfl, rfl, rfl, rfl, rfl, rfl, rfl, trivial⟩, rfl, rfl⟩
     | false =>
      have hz := hnx false true rfl rfl;cbv;refine ⟨hfs, iO, ⟨_, gO, ?_⟩⟩;cbv;refine ⟨hfn, ?_⟩;refine Z8 (A.add nI 1, n + 1, false, true) [0, 1] ⟨hn1, hw2, hz⟩ hms2 ?_;exact ⟨by decide, Z9, ⟨rfl, rfl, trivial⟩, ⟨rfl, rfl, rfl, rfl, rfl, rfl, rfl, trivial⟩, rfl, rfl⟩
    | false =>
     cases b with
     | true =>
      have hz := hnx _ _ rfl rfl;cbv;refine ⟨hfs, iO, ⟨_, gO, ?_⟩⟩;cbv;refine ⟨iO, ⟨_, gO, ?_⟩⟩;cbv;refine ⟨hfn, ?_⟩;refine Z8 (A.add nI 1, n + 1, A.cmp .neq (A.bits .and .i64 nI (A.sub nI 1)) 0, A.bnot (A.cmp .neq (A.bits .and .i64 nI (A.sub nI 1)) 0)) [0, 1] ⟨hn1, hw2, hz⟩ hms2 ?_;exact ⟨by decide, Z9, ⟨rfl, rfl, trivial⟩, ⟨rfl, rfl, rfl, rfl, rfl, rfl, rfl, trivial⟩, rfl, rfl⟩
     | false =>
      have hz := hnx false false rfl rfl;cbv;refine ⟨hfs, iO, ⟨_, gO, ?_⟩⟩;cbv;refine ⟨iO, ⟨_, gO, ?_⟩⟩;cbv;refine ⟨hfn, ?_⟩;refine Z8 (A.add nI 1, n + 1, false, false) [0, 1] ⟨hn1, hw2, hz⟩ hms2 ?_;exact ⟨by decide, Z9, ⟨rfl, rfl, trivial⟩, ⟨rfl, rfl, rfl, rfl, rfl, rfl, rfl, trivial⟩, rfl, rfl⟩
  ·have hn := hno2 c2;rw [hn] at w3;have hz := hvk is no w3;cbv;refine Z7 ?_;cbv;refine Z4 hS [.v (.bool is), .v (.bool no)] [] [] rfl rfl rfl rfl rfl rfl rfl rfl (by decide) trivial (Zln is no vk hz _ ?_);refine Z3 Z0 hA hS ?_;cbv;refine ⟨Ze hA hRl, Ze hA rfl, Z27 hA hk6 (by decide), hf1, ?_⟩;refine Z8 (A.add kI 1, k + 1, A.app R [I vk]) [0, 3] ⟨hk, hu2, hR2⟩ hms ?_;exact ⟨by decide, Z9, ⟨rfl, rfl, trivial⟩, ⟨rfl, by rw [<- hn2]; rfl, rfl, trivial⟩, rfl, rfl⟩
 ·have hk : k = N := hno c;rw [<- hk, <- u3] at hq;cbv;refine Z7 ?_;cbv;refine Z1w [1] ?_;cbv;exact ⟨by cases R <;> exact hRl.symm, Z2 [] (by decide) Z9 (H' := []) (d' := .tup [.sl 1 R, I 0]) trivial rfl (Z1 hq)⟩
end Go.Proofs.Ytecfpfhkicapeaa

/- Part TxBJ of the proofs about the benches of the accordion maker: see the last text of the claim for what is proved. -/
import Derived.Test.YtggilmnhgjofiaaGreatTxBI
set_option linter.unusedVariables false
set_option linter.unusedSimpArgs false
set_option linter.unnecessarySimpa false
set_option linter.constructorNameAsVariable false

namespace Go.Proofs.YtggilmnhgjofiaaGreat
open Go Go.Abs Go.Proofs
set_option maxRecDepth 40000 in
set_option maxHeartbeats 4000000 in
theorem Z27g (x : Int) (Q) (hq : ∀ f st sp pr x', (5 <= f /\ f <= 25) -> (-1 <= st /\ st <= 1) -> (1 <= sp /\ sp <= 8) -> (0 <= pr /\ pr <= 3) -> Q (RA.ret (.agg [I f, I st, I sp, I pr])) [pot x']) : CallA Tryz.prog 23 [.b 0 0, I 3] [pot x] Q := by
 obtain ⟨A, hA⟩ : ∃ A, A = ar := ⟨_, rfl⟩;refine Z38 Z0 hA [2, 3] Tryz.func23 rfl rfl rfl rfl rfl fun S hS => ?_;cbv;refine Z4 hS [.b 0 0, I 5, I 25] [0] [pot x] rfl rfl rfl rfl rfl rfl rfl rfl (by decide) ⟨rfl, trivial⟩ (Zn3 x 5 25 (by omega) _ fun f xf hf1 hf2 => Z3 Z0 hA hS ?_);cbv;refine Z4 hS [.b 0 0, I 1, I 8] [0] [pot xf] rfl rfl rfl rfl rfl rfl rfl rfl (by decide) ⟨rfl, trivial⟩ (Zn3 xf 1 8 (by omega) _ fun sp xs hs1 hs2 => Z3 Z0 hA hS ?_);cbv;refine Z4 hS [.b 0 0, I 3] [0] [pot xs] rfl rfl rfl rfl rfl rfl rfl rfl (by decide) ⟨rfl, trivial⟩ (Zj0 xs 3 (by omega) _ fun pr xp hp1 hp2 => Z3 Z0 hA hS ?_);cbv;refine Zb hS ?_;refine Z2w Z0 hA hS [3] ?_;cbv;refine ⟨by subst hA; show (3 : Int) ≠ 0; decide, by subst hA; exact Zbu (n := 1) (by omega), ?_⟩;refine Z3h hS (Zo7 6 (I 1) rfl (WkD.eq (by subst hA; rfl)) (Z7 ?_));refine Zb hS ?_;refine Z2w Z0 hA hS [] ?_;cbv;refine bmT (by subst hA; rfl) ?_;cbv;refine ⟨by subst hA; exact Zbu (n := -1) (by omega), ?_⟩;refine Z4 hS [.b 0 0, I (A.neg 1), I 1] [0] [pot xp] rfl rfl rfl rfl rfl rfl rfl rfl (by decide) ⟨rfl, trivial⟩ (Zn3 xp (A.neg 1) 1 (by subst hA; show -1000000000 <= (-1 : Int) /\ (-1 : Int) <= 1000000000 /\ _; omega) _ fun st xt ht1 ht2 => Z3 Z0 hA hS ?_);have ht : -1 <= st /\ st <= 1 := by
  have e : A.neg 1 = -1 := by subst hA; rfl
  rw [e] at ht1 ht2;omega
 have hqq := hq f st sp pr xt (by omega) ht (by omega) (by omega);cbv;exact Z2 [0] (by decide) Z2n (H' := [pot xt]) (d' := .agg [I f, I st, I sp, I pr]) ⟨rfl, trivial⟩ rfl (Z1 hqq)
structure OkF (t0 t1 r0 r1 u0 u1 d0 d1 x0 x1 y0 y1 least : Int) : Prop where
 t : InR 0 100 (t0, t1)
 r : InR 0 100 (r0, r1)
 u : InR 0 7 (u0, u1)
 d : InR 0 7 (d0, d1)
 x : InR 0 12 (x0, x1)
 y : InR 0 12 (y0, y1)
 least : 0 <= least /\ least <= 100
set_option maxRecDepth 40000 in
set_option maxHeartbeats 8000000 in
theorem Z27h (x : Int) (Q) (hq : ∀ p0 p1 t0 t1 r0 r1 u0 u1 d0 d1 x0 x1 y0 y1 least wi me x', OkF t0 t1 r0 r1 u0 u1 d0 d1 x0 x1 y0 y1 least -> Q (RA.ret (.agg [I p0, I p1, I t0, I t1, I r0, I r1, I u0, I u1, I d0, I d1, I x0, I x1, I y0, I y1, I least, .any, I wi, I me])) [pot x']) :
  CallA Tryz.prog 25 [.b 0 0, I 0, I 1] [pot x] Q := by
 obtain ⟨A, hA⟩ : ∃ A, A = ar := ⟨_, rfl⟩;refine Z38 Z0 hA [9, 12] Tryz.func25 rfl rfl rfl rfl rfl fun S hS => ?_;cbv;refine Z4 hS [.b 0 0, I 1, I 6] [0] [pot x] rfl rfl rfl rfl rfl rfl rfl rfl (by decide) ⟨rfl, trivial⟩ (Zn3 x 1 6 (by omega) _ fun wi xw hw1 hw2 => Z3 Z0 hA hS ?_);cbv;refine Z4 hS [.b 0 0, I 3] [0] [pot xw] rfl rfl rfl rfl rfl rfl rfl rfl (by decide) ⟨rfl, trivial⟩ (Zj0 xw 3 (by omega) _ fun m0 xm hm1 hm2 => Z3 Z0 hA hS ?_);cbv;refine Z26 hS (Z1a hA [2] ?_);cbv;refine ⟨by subst hA; rfl, Z7 ?_⟩;refine Z4 hS [.b 0 0, .sl 1 [I 0, I 1, I m0]] [0] [pot xm] rfl rfl rfl rfl rfl rfl rfl rfl (by decide) ⟨rfl, trivial⟩ (of_ xm _ [0, 1, m0] rfl (Nat.le_of_ble_eq_true rfl) (by simp) _ fun me xo ho => Z3 Z0 hA hS ?_);cbv;refine Z4 hS [.b 0 0, I (-16), I 16] [0] [pot xo] rfl rfl rfl rfl rfl rfl rfl rfl (by decide) ⟨rfl, trivial⟩ (Zn3 xo (-16) 16 (by omega) _ fun n xn hn1 hn2 => Z3 Z0 hA hS ?_);cbv;refine Z4 hS [.b 0 0, I n, I (-60), I 60, I 0] [0] [pot xn] rfl rfl rfl rfl rfl rfl rfl rfl (by decide) ⟨rfl, trivial⟩ (Z1xm xn n (-60) 60 0 (by omega) (by omega) _ fun p0 p1 xp _ _ _ _ _ _ => Z3 Z0 hA hS ?_);cbv;refine Z4 hS [.b 0 0, I 20, I 40] [0] [pot xp] rfl rfl rfl rfl rfl rfl rfl rfl (by decide) ⟨rfl, trivial⟩ (Zn3 xp 20 40 (by omega) _ fun n1 xa ha1 ha2 => Z3 Z0 hA hS ?_);cbv;refine Z4 hS [.b 0 0, I n1, I 0, I 100, I 2] [0] [pot xa] rfl rfl rfl rfl rfl rfl rfl rfl (by decide) ⟨rfl, trivial⟩ (Z1xm xa n1 0 100 2 (by omega) (by omega) _ fun t0 t1 xt gt1 gt2 gt3 gt4 _ _ => Z3 Z0 hA hS ?_);cbv;refine Z4 hS [.b 0 0, I 20, I 40] [0] [pot xt] rfl rfl rfl rfl rfl rfl rfl rfl (by decide) ⟨rfl, trivial⟩ (Zn3 xt 20 40 (by omega) _ fun n2 xb hb1 hb2 => Z3 Z0 hA hS ?_);cbv;refine Z4 hS [.b 0 0, I n2, I 0, I 100, I 2] [0] [pot xb] rfl rfl rfl rfl rfl rfl rfl rfl (by decide) ⟨rfl, trivial⟩ (Z1xm xb n2 0 100 2 (by omega) (by omega) _ fun r0 r1 xr gr1 gr2 gr3 gr4 _ _ => Z3 Z0 hA hS ?_);cbv;refine Z4 hS [.b 0 0, I 1, I 6] [0] [pot xr] rfl rfl rfl rfl rfl rfl rfl rfl (by decide) ⟨rfl, trivial⟩ (Zn3 xr 1 6 (by omega) _ fun n3 xc hc1 hc2 => Z3 Z0 hA hS ?_);cbv;refine Z4 hS [.b 0 0, I n3, I 0, I 12, I 1] [0] [pot xc] rfl rfl rfl rfl rfl rfl rfl rfl (by decide) ⟨rfl, trivial⟩ (Z1xm xc n3 0 12 1 (by omega) (by omega) _ fun u0 u1 xu gu1 gu2 gu3 gu4 gu5 gu6 => Z3 Z0 hA hS ?_);cbv;refine Z4 hS [.b 0 0, I 1, I 6] [0] [pot xu] rfl rfl rfl rfl rfl rfl rfl rfl (by decide) ⟨rfl, trivial⟩ (Zn3 xu 1 6 (by omega) _ fun n4 xd hd1 hd2 => Z3 Z0 hA hS ?_);cbv;refine Z4 hS [.b 0 0, I n4, I 0, I 12, I 1] [0] [pot xd] rfl rfl rfl rfl rfl rfl rfl rfl (by decide) ⟨rfl, trivial⟩ (Z1xm xd n4 0 12 1 (by omega) (by omega) _ fun d0 d1 xe gd1 gd2 gd3 gd4 gd5 gd6 => Z3 Z0 hA hS ?_);cbv;refine Z4 hS [.b 0 0, I 4] [0] [pot xe] rfl rfl rfl rfl rfl rfl rfl rfl (by decide) ⟨rfl, trivial⟩ (Zj0 xe 4 (by omega) _ fun n5 xg hg1 hg2 => Z3 Z0 hA hS ?_);cbv;refine Z4 hS [.b 0 0, I n5, I 0, I 12, I 1] [0] [pot xg] rfl rfl rfl rfl rfl rfl rfl rfl (by decide) ⟨rfl, trivial⟩ (Z1xm xg n5 0 12 1 (by omega) (by omega) _ fun x0 x1 xh gx1 gx2 gx3 gx4 _ _ => Z3 Z0 hA hS ?_);cbv;refine Z4 hS [.b 0 0, I 4] [0] [pot xh] rfl rfl rfl rfl rfl rfl rfl rfl (by decide) ⟨rfl, trivial⟩ (Zj0 xh 4 (by omega) _ fun n6 xi hi1 hi2 => Z3 Z0 hA hS ?_);cbv;refine Z4 hS [.b 0 0, I n6, I 0, I 12, I 1] [0] [pot xi] rfl rfl rfl rfl rfl rfl rfl rfl (by decide) ⟨rfl, trivial⟩ (Z1xm xi n6 0 12 1 (by omega) (by omega) _ fun y0 y1 xj gy1 gy2 gy3 gy4 _ _ => Z3 Z0 hA hS ?_);cbv;refine Z4 hS [.b 0 0, I 10, I 30] [0] [pot xj] rfl rfl rfl rfl rfl rfl rfl rfl (by decide) ⟨rfl, trivial⟩ (Zn3 xj 10 30 (by omega) _ fun least xl hl1 hl2 => Z3 Z0 hA hS ?_);cbv;refine Z4 hS [.b 0 0, I 3] [0] [pot xl] rfl rfl rfl rfl rfl rfl rfl rfl (by decide) ⟨rfl, trivial⟩ (Zj0 xl 3 (by omega) _ fun i0 xz hz1 hz2 => Z3 Z0 hA hS ?_);have hOk : OkF t0 t1 r0 r1 u0 u1 d0 d1 x0 x1 y0 y1 least := ⟨⟨gt1, by dsimp only; omega, gt4⟩, ⟨gr1, by dsimp only; omega, gr4⟩, ⟨gu1, by dsimp only; omega, by dsimp only; omega⟩, ⟨gd1, by dsimp only; omega, by dsimp only; omega⟩, ⟨gx1, by dsimp only; omega, gx4⟩, ⟨gy1, by dsimp only; omega, gy4⟩, by omega, by omega⟩;have hqq := fun xx => hq p0 p1 t0 t1 r0 r1 u0 u1 d0 d1 x0 x1 y0 y1 least wi me xx hOk;cbv;refine Z3h hS (Zfk 3 15 2 (.agg [I p0, I p1, I t0, I t1, I r0, I r1, I u0, I u1, I d0, I d1, I x0, I x1, I y0, I y1, I least, .o 4 2 0, I wi, I me]) rfl rfl rfl (Z7 ?_));refine Zb hS ?_;refine Za (α := Int × Int × Nat × List D) (fun p => { env := [(0, .b 0 0), (6, .b 1 0), (7, .b 2 0), (9, I p.1)], H := [pot p.2.1, .box (.agg [I 0, I 0, I 0, I 0, I 0, I 0, I 0, I 0, I 0, I 0, I 0, I 0, I 0, I 0, I 0, .v (.slice none 0 0), I 0, I 0]), .box (.agg [I p0, I p1, I t0, I t1, I r0, I r1, I u0, I u1, I d0, I d1, I x0, I x1, I y0, I y1, I least, .o 3 2 p.2.2.1, I wi, I me]), .els 2 p.2.2.2], nt := 84, dfs := [] })
  (fun p => p.1.toNat) (fun p => (0 <= p.1 /\ p.1 <= 3) /\ p.1 + p.2.2.1 <= 3 /\ p.2.2.2.length = p.2.2.1) (i0, xz, 0, []) ⟨⟨hz1, by show i0 <= 3; omega⟩, by show i0 + ((0 : Nat) : Int) <= 3; omega, rfl⟩ ?_ ?_
 ·exact Zf [0, 1, 3, 4] ⟨by decide, Z2n, ⟨rfl, rfl, rfl, rfl, trivial⟩, ⟨rfl, rfl, rfl, rfl, trivial⟩, rfl, rfl⟩
 rintro ⟨i, xx, k, es⟩ ⟨⟨v1, v2⟩, v3, v4⟩;dsimp only at v1 v2 v3 v4;have hk3 : k <= 1000000 := by omega
 have hstep : 0 < i -> (0 <= A.sub i 1 /\ A.sub i 1 <= 3) /\ A.sub i 1 + (A.addN k 1 : Nat) <= 3 /\ (A.sub i 1).toNat < i.toNat := fun h => by subst hA; show (0 <= i - 1 /\ i - 1 <= 3) /\ i - 1 + ((k + 1 : Nat) : Int) <= 3 /\ (i - 1).toNat < i.toNat; omega
 have hfs : A.fits .i64 (A.sub i 1) := by subst hA; exact Zbu (n := i - 1) (by omega)
 have hln : ∀ d, (A.app es [d]).length = A.addN k 1 := fun d => by subst hA; show (es ++ [d]).length = k + 1; simp [v4]
 clear v3;refine Zi Z0 hA hS ?_;cbv;refine bm (fun c => ?_) (fun c => ?_)
 ·obtain ⟨w1, w2, w3⟩ := hstep (xgt hA c);cbv;refine Z16 Z0 hA hS [0, 1, 2, 3, 8, 4, 5, 6, 7, 9] rfl rfl fun Dk hDk => ?_;cbv;refine Zq hA hDk [.b 0 0, I (-3), I 3] [0] [pot xx] rfl rfl rfl rfl rfl rfl rfl rfl rfl rfl rfl (by decide) ⟨rfl, trivial⟩ (Zn3 xx (-3) 3 (by omega) _ fun q xq hq1 hq2 => ⟨by cbv, Zx Z0 hA hDk ?_⟩);cbv;refine Zq hA hDk [.b 0 0, I q, I (-60), I 60, I 2] [0] [pot xq] rfl rfl rfl rfl rfl rfl rfl rfl rfl rfl rfl (by decide) ⟨rfl, trivial⟩ (Z1xm xq q (-60) 60 2 (by omega) (by omega) _ fun a b xs _ _ _ _ _ _ => ⟨by cbv, Zx Z0 hA hDk ?_⟩);cbv;refine ⟨Ze hA v4, Ze hA rfl, Z27 hA hk3 (by decide), hfs, ?_⟩;refine Z8 (A.sub i 1, xs, A.addN k 1, _) [0, 1, 2, 5] ⟨w1, w2, hln _⟩ w3 (by
   exact ⟨by decide, Z2n, ⟨rfl, rfl, rfl, rfl, trivial⟩, ⟨rfl, rfl, rfl, rfl, trivial⟩, rfl, rfl⟩)
 ·cbv;refine Z7 ?_;cbv;refine Z3h hS (Z7w 2 (.agg [I p0, I p1, I t0, I t1, I r0, I r1, I u0, I u1, I d0, I d1, I x0, I x1, I y0, I y1, I least, .any, I wi, I me]) rfl ⟨WkD.rfl, WkD.rfl, WkD.rfl, WkD.rfl, WkD.rfl, WkD.rfl, WkD.rfl, WkD.rfl, WkD.rfl, WkD.rfl, WkD.rfl, WkD.rfl, WkD.rfl, WkD.rfl, WkD.rfl, WkD.any, WkD.rfl, WkD.rfl, trivial⟩ (Z7 ?_));refine Zb hS ?_;refine Z2w Z0 hA hS [] ?_;cbv;exact Z2 [0] (by decide) Z2n (H' := [pot xx]) (d' := .agg [I p0, I p1, I t0, I t1, I r0, I r1, I u0, I u1, I d0, I d1, I x0, I x1, I y0, I y1, I least, .any, I wi, I me]) ⟨rfl, trivial⟩ rfl (Z1 (hqq xx))
end Go.Proofs.YtggilmnhgjofiaaGreat

namespace Go.Proofs.YtggilmnhgjofiaaGreat
open Go Go.Abs Go.Proofs
structure Sd where
 a : Int
 b : Int
 c : Int
 d : Int
def sD (s : Sd) : D := .agg [I s.a, I s.b, I s.c, I s.d]
structure RowS (L : List D) (l : List Sd) : Prop where
 eq : L = l.map sD
 ok : ∀ s ∈ l, OkS s.a s.b s.c s.d
theorem RowS.nil : RowS [] [] := ⟨rfl, fun s h => absurd h (by simp)⟩
theorem RowS.add {L : List D} {l : List Sd} (h : RowS L l) {a b c d : Int} (hs : OkS a b c d) : RowS (L ++ [.agg [I a, I b, I c, I d]]) (l ++ [⟨a, b, c, d⟩]) := ⟨by rw [h.eq]; simp [sD], fun s hm => by
 rcases List.mem_append.1 hm with hm | hm
 ·exact h.ok s hm
 ·simp at hm; subst hm; exact hs⟩
theorem RowS.len {L : List D} {l : List Sd} (h : RowS L l) : l.length = L.length := by rw [h.eq]; simp
structure RowN (L : List D) (l : List Int) : Prop where
 eq : L = l.map I
 ok : ∀ n ∈ l, -6 <= n /\ n <= 6
theorem RowN.nil : RowN [] [] := ⟨rfl, fun s h => absurd h (by simp)⟩
theorem RowN.add {L : List D} {l : List Int} (h : RowN L l) {n : Int} (hs : -6 <= n /\ n <= 6) : RowN (L ++ [I n]) (l ++ [n]) := ⟨by rw [h.eq]; simp, fun s hm => by
 rcases List.mem_append.1 hm with hm | hm
 ·exact h.ok s hm
 ·simp at hm; subst hm; exact hs⟩
structure OkB (f st sp pr note me t0 t1 r0 r1 u0 u1 d0 d1 x0 x1 y0 y1 least : Int) : Prop where
 f : 5 <= f /\ f <= 25
 st : -1 <= st /\ st <= 1
 sp : 1 <= sp /\ sp <= 8
 pr : 0 <= pr /\ pr <= 3
 note : 0 <= note /\ note <= 3
 me : 0 <= me /\ me <= 1
 file : OkF t0 t1 r0 r1 u0 u1 d0 d1 x0 x1 y0 y1 least
theorem Z20d {f st note : Int} (hf : 5 <= f /\ f <= 25) (hst : -1 <= st /\ st <= 1) (hn : 0 <= note /\ note <= 3) : (-3 <= st * note /\ st * note <= 3) /\ 2 <= f + st * note /\ f + st * note <= 28 := by
 obtain rfl | rfl | rfl : st = -1 ∨ st = 0 ∨ st = 1 := by omega
 all_goals omega
set_option maxRecDepth 40000 in
set_option maxHeartbeats 16000000 in
theorem Z27i (x : Int) (Q) (hq : ∀ f st sp pr note me t0 t1 r0 r1 u0 u1 d0 d1 x0 x1 y0 y1 least (nl nh : Nat) LS HS ls hs x', OkB f st sp pr note me t0 t1 r0 r1 u0 u1 d0 d1 x0 x1 y0 y1 least -> RowS LS ls -> RowS HS hs -> LS.length = nl -> HS.length = nh -> nl <= 2 -> nh <= 2 ->
   Q (RA.ret (.agg [I f, I st, I sp, I pr, I note, .o 1 4 nl, .o 2 4 nh, I t0, I t1, I r0, I r1, I u0, I u1, I d0, I d1, I x0, I x1, I y0, I y1, I least, I me])) [pot x', .els 4 LS, .els 4 HS]) :
  CallA Tryz.prog 5 [.b 0 0, I 2, I 2, I 1] [pot x] Q := by
 obtain ⟨A, hA⟩ : ∃ A, A = ar := ⟨_, rfl⟩;refine Z38 Z0 hA [3, 4, 5, 10] Tryz.func5 rfl rfl rfl rfl rfl fun S hS => ?_;cbv;refine Z4 hS [.b 0 0, I 3] [0] [pot x] rfl rfl rfl rfl rfl rfl rfl rfl (by decide) ⟨rfl, trivial⟩ (Z27g x _ fun f st sp pr xl hf hst hsp hpr => Z3 Z0 hA hS ?_);cbv;refine Z4 hS [.b 0 0, I 3] [0] [pot xl] rfl rfl rfl rfl rfl rfl rfl rfl (by decide) ⟨rfl, trivial⟩ (Zj0 xl 3 (by omega) _ fun note xn hn1 hn2 => Z3 Z0 hA hS ?_);cbv;refine Z4 hS [.b 0 0, I 1] [0] [pot xn] rfl rfl rfl rfl rfl rfl rfl rfl (by decide) ⟨rfl, trivial⟩ (Zj0 xn 1 (by omega) _ fun me xm hm1 hm2 => Z3 Z0 hA hS ?_);have hnote : 0 <= note /\ note <= 3 := by omega
 have hme : 0 <= me /\ me <= 1 := by omega
 have hdb := Z20d hf hst hnote;have f1 : A.fits .i64 (A.mul st note) := by subst hA; exact Zbu (n := st * note) (by omega)
 have f2 : A.fits .i64 (A.add f (A.mul st note)) := by subst hA; exact Zbu (n := f + st * note) (by omega)
 obtain ⟨due, hdue⟩ : ∃ due, due = f + st * note := ⟨_, rfl⟩;have hd : A.add f (A.mul st note) = due := by rw [hdue]; subst hA; rfl
 rw [<- hdue] at hdb;have hdb := hdb.2;clear hdue;cbv;refine ⟨f1, f2, ?_⟩;refine Z3h hS (Zo7 10 (I due) rfl (WkD.eq (congrArg (fun v => D.v (.int .i64 v)) hd)) (Zfk 2 5 4 (.agg [I f, I st, I sp, I pr, I note, .o 3 4 0, .v (.slice none 0 0), I 0, I 0, I 0, I 0, I 0, I 0, I 0, I 0, I 0, I 0, I 0, I 0, I 0, I me]) rfl rfl rfl (Zfk 2 6 4 (.agg [I f, I st, I sp, I pr, I note, .o 3 4 0, .o 4 4 0, I 0, I 0, I 0, I 0, I 0, I 0, I 0, I 0, I 0, I 0, I 0, I 0, I 0, I me]) rfl rfl rfl (Z7 ?_))));refine Zb hS ?_;refine Z2w Z0 hA hS [] ?_;cbv;refine Z3h hS (Z2a 11 1 rfl (Z7 ?_));refine Zb hS ?_;refine Z2w Z0 hA hS [] ?_;cbv;have hmin2 : A.min 2 4 = 2 := by subst hA; rfl
 refine Z4 hS [.b 0 0, I (A.min 2 4)] [0] [pot xm] rfl rfl rfl rfl rfl rfl rfl rfl (by decide) ⟨rfl, trivial⟩ (Zj0 xm _ (by rw [hmin2]; omega) _ fun i0 xi hi1 hi2 => Z3 Z0 hA hS ?_);have hi0 : 0 <= i0 /\ i0 <= 2 := by rw [hmin2] at hi2; omega
 cbv;refine Zb hS ?_;refine Za (α := Int × Int × Nat × List D × List D × List Sd × List Int) (fun p => { env := [(0, .b 0 0), (2, I 2), (3, I 1), (8, .b 1 0), (9, .b 2 0), (10, I due), (11, .o 5 1 p.2.2.1), (12, I p.1)], H := [pot p.2.1, .box (.agg [I 0, I 0, I 0, I 0, I 0, .v (.slice none 0 0), .v (.slice none 0 0), I 0, I 0, I 0, I 0, I 0, I 0, I 0, I 0, I 0, I 0, I 0, I 0, I 0, I 0]), .box (.agg [I f, I st, I sp, I pr, I note, .o 3 4 p.2.2.1, .o 4 4 0, I 0, I 0, I 0, I 0, I 0, I 0, I 0, I 0, I 0, I 0, I 0, I 0, I 0, I me]), .els 4 p.2.2.2.1, .els 4 [], .els 1 p.2.2.2.2.1], nt := 115, dfs := [] })
  (fun p => p.1.toNat) (fun p => (0 <= p.1 /\ p.1 <= 2) /\ p.1 + p.2.2.1 <= 2 /\ (p.2.2.2.1.length = p.2.2.1 /\ p.2.2.2.2.1.length = p.2.2.1) /\ RowS p.2.2.2.1 p.2.2.2.2.2.1 /\ RowN p.2.2.2.2.1 p.2.2.2.2.2.2) (i0, xi, 0, [], [], [], []) ⟨hi0, by show i0 + ((0 : Nat) : Int) <= 2; omega, ⟨rfl, rfl⟩, .nil, .nil⟩ ?_ ?_
 ·exact Zf [0, 1, 2, 3, 4, 5] ⟨by decide, Z2n, ⟨rfl, rfl, rfl, rfl, rfl, rfl, trivial⟩, ⟨rfl, rfl, rfl, rfl, rfl, rfl, rfl, rfl, trivial⟩, rfl, rfl⟩
 rintro ⟨i, xx, k, LS, TS, ls, ts⟩ ⟨⟨v1, v2⟩, v3, ⟨v4, v5⟩, v6, v7⟩;dsimp only at v1 v2 v3 v4 v5 v6 v7;have hk3 : k <= 1000000 := by omega
 have hk2 : k <= 2 := by omega
 have hstep : 0 < i -> (0 <= A.sub i 1 /\ A.sub i 1 <= 2) /\ A.sub i 1 + (A.addN k 1 : Nat) <= 2 /\ (A.sub i 1).toNat < i.toNat := fun h => by subst hA; show (0 <= i - 1 /\ i - 1 <= 2) /\ i - 1 + ((k + 1 : Nat) : Int) <= 2 /\ (i - 1).toNat < i.toNat; omega
 have hfs : A.fits .i64 (A.sub i 1) := by subst hA; exact Zbu (n := i - 1) (by omega)
 have hln : ∀ d, (A.app LS [d]).length = A.addN k 1 := fun d => by subst hA; show (LS ++ [d]).length = k + 1; simp [v4]
 have hlt : ∀ d, (A.app TS [d]).length = A.addN k 1 := fun d => by subst hA; show (TS ++ [d]).length = k + 1; simp [v5]
 have hls : ∀ a b c d, OkS a b c d -> RowS (A.app LS [.agg [I a, I b, I c, I d]]) (ls ++ [⟨a, b, c, d⟩]) := fun a b c d h => by subst hA; exact v6.add h
 have hts : ∀ n, -6 <= n /\ n <= 6 -> RowN (A.app TS [I n]) (ts ++ [n]) := fun n h => by subst hA; exact v7.add h
 clear v3;refine Zi Z0 hA hS ?_;cbv;refine bm (fun c => ?_) (fun c => ?_)
 ·obtain ⟨w1, w2, w3⟩ := hstep (xgt hA c);cbv;refine Z4 hS [.b 0 0, I (-6), I 6] [0] [pot xx] rfl rfl rfl rfl rfl rfl rfl rfl (by decide) ⟨rfl, trivial⟩ (Zn3 xx (-6) 6 (by omega) _ fun n xw hn1 hn2 => Z3 Z0 hA hS ?_);have hn6 : -6 <= n /\ n <= 6 := by omega
  have hts := hts n hn6;cbv;refine Z16 Z0 hA hS [0, 1, 2, 3, 4, 8, 9, 10, 12, 5, 6, 7, 11, 13, 14] rfl rfl fun Dk hDk => ?_;cbv;refine Zq hA hDk [.b 0 0, I n, I 1] [0] [pot xw] rfl rfl rfl rfl rfl rfl rfl rfl rfl rfl rfl (by decide) ⟨rfl, trivial⟩ (Z1zm xw n (by omega) _ fun a b c d xs hs => ⟨by cbv, Zx Z0 hA hDk ?_⟩);have hls := hls a b c d hs;cbv;refine ⟨Ze hA v4, Ze hA rfl, Z27 hA hk3 (by decide), Ze hA v5, Ze hA rfl, Z27 hA hk3 (by decide), hfs, ?_⟩;refine Z8 (A.sub i 1, xs, A.addN k 1, _, _, _, _) [0, 1, 2, 8, 4, 9] ⟨w1, w2, ⟨hln _, hlt _⟩, hls, hts⟩ w3 (by
   exact ⟨by decide, Z2n, ⟨rfl, rfl, rfl, rfl, rfl, rfl, trivial⟩, ⟨rfl, rfl, rfl, rfl, rfl, rfl, rfl, rfl, trivial⟩, rfl, rfl⟩)
 ·obtain ⟨k1, hk1⟩ : ∃ k1, k1 = k := ⟨_, rfl⟩;subst hk1;have hLl := v4;have hTl := v5;have hTg : ∀ j, j < k1 -> ∃ t : Int, TS[j]? = some (I t) /\ -6 <= t /\ t <= 6 := fun j hj => by
   have hj' : j < ts.length := by have h := v5; rw [v7.eq] at h; simp at h; omega
   exact ⟨ts[j], by rw [v7.eq]; simp [hj'], v7.ok _ (List.getElem_mem hj')⟩
  clear hstep hfs hln hlt hls hts v7 v1 v2 hk3;have hmin3 : A.min 2 5 = 2 := by subst hA; rfl
  cbv;refine Z7 ?_;cbv;refine Z4 hS [.b 0 0, I (A.min 2 5)] [0] [pot xx] rfl rfl rfl rfl rfl rfl rfl rfl (by decide) ⟨rfl, trivial⟩ (Zj0 xx _ (by rw [hmin3]; omega) _ fun i1 xi hi1 hi2 => Z3 Z0 hA hS ?_);have hi1' : 0 <= i1 /\ i1 <= 2 := by rw [hmin3] at hi2; omega
  clear hi1 hi2 hi0;cbv;refine Zb hS ?_;refine Za (α := Int × Int × Nat × List D × List Sd) (fun p => { env := [(0, .b 0 0), (3, I 1), (8, .b 1 0), (9, .b 2 0), (10, I due), (11, .o 5 1 k1), (14, I p.1)], H := [pot p.2.1, .box (.agg [I 0, I 0, I 0, I 0, I 0, .v (.slice none 0 0), .v (.slice none 0 0), I 0, I 0, I 0, I 0, I 0, I 0, I 0, I 0, I 0, I 0, I 0, I 0, I 0, I 0]), .box (.agg [I f, I st, I sp, I pr, I note, .o 3 4 k1, .o 4 4 p.2.2.1, I 0, I 0, I 0, I 0, I 0, I 0, I 0, I 0, I 0, I 0, I 0, I 0, I 0, I me]), .els 4 LS, .els 4 p.2.2.2.1, .els 1 TS], nt := 115, dfs := [] })
   (fun p => p.1.toNat) (fun p => (0 <= p.1 /\ p.1 <= 2) /\ p.1 + p.2.2.1 <= 2 /\ p.2.2.2.1.length = p.2.2.1 /\ RowS p.2.2.2.1 p.2.2.2.2) (i1, xi, 0, [], []) ⟨hi1', by show i1 + ((0 : Nat) : Int) <= 2; omega, rfl, .nil⟩ ?_ ?_
  ·exact Zf [0, 1, 2, 3, 4, 5] ⟨by decide, Z2n, ⟨rfl, rfl, rfl, rfl, rfl, rfl, trivial⟩, ⟨rfl, rfl, rfl, rfl, rfl, rfl, rfl, trivial⟩, rfl, rfl⟩
  rintro ⟨i, xx, k, HS, hs⟩ ⟨⟨v1, v2⟩, v3, v4, v7⟩;dsimp only at v1 v2 v3 v4 v7;have hk3 : k <= 1000000 := by omega
  have hk2' : k <= 2 := by omega
  have hstep : 0 < i -> (0 <= A.sub i 1 /\ A.sub i 1 <= 2) /\ A.sub i 1 + (A.addN k 1 : Nat) <= 2 /\ (A.sub i 1).toNat < i.toNat := fun h => by subst hA; show (0 <= i - 1 /\ i - 1 <= 2) /\ i - 1 + ((k + 1 : Nat) : Int) <= 2 /\ (i - 1).toNat < i.toNat; omega
  have hfs : A.fits .i64 (A.sub i 1) := by subst hA; exact Zbu (n := i - 1) (by omega)
  have hln : ∀ d, (A.app HS [d]).length = A.addN k 1 := fun d => by subst hA; show (HS ++ [d]).length = k + 1; simp [v4]
  have hhs : ∀ a b c d, OkS a b c d -> RowS (A.app HS [.agg [I a, I b, I c, I d]]) (hs ++ [⟨a, b, c, d⟩]) := fun a b c d h => by subst hA; exact v7.add h
  clear v3;refine Zi Z0 hA hS ?_;cbv;refine bm (fun c => ?_) (fun c => ?_)
  ·obtain ⟨w1, w2, w3⟩ := hstep (xgt hA c);cbv;refine Z4 hS [.b 0 0, I (-5), I 5] [0] [pot xx] rfl rfl rfl rfl rfl rfl rfl rfl (by decide) ⟨rfl, trivial⟩ (Zn3 xx (-5) 5 (by omega) _ fun n xw hn1 hn2 => Z3 Z0 hA hS ?_);have hn5 : -5 <= n /\ n <= 5 := by omega
   clear hn1 hn2;cbv;refine bm (fun ct => ?_) (fun ct => ?_)
   ·have hkp : 0 < k1 := by have h := xgt hA ct; subst hA; have h : (0 : Int) < (k1 : Nat) := h; omega
    have ef1 : A.fits .i64 (A.sub (A.oi k1) 1) := by subst hA; exact Zbu (n := (k1 : Int) - 1) (by omega)
    have ef2 : A.fits .i64 (A.neg sp) := by subst hA; exact Zbu (n := -sp) (by omega)
    have ef3 : A.fits .i64 (A.sub (A.neg sp) 3) := by subst hA; exact Zbu (n := -sp - 3) (by omega)
    have ef4 : A.fits .i64 (A.add sp 3) := by subst hA; exact Zbu (n := sp + 3) (by omega)
    have eb1 : A.sub (A.oi k1) 1 <= 1000000000000 := by subst hA; show (k1 : Int) - 1 <= _; omega
    have eb2 : ∀ j, 0 <= j -> (j <= A.sub (A.oi k1) 1 ∨ j = 0) -> ∃ jn : Nat, IsI j jn /\ jn < k1 := fun j h1 h2 => by
     have h2 : j <= (k1 : Int) - 1 ∨ j = 0 := by subst hA; exact h2
     exact ⟨j.toNat, ⟨by omega⟩, by omega⟩
    have eb3 : -1000000000 <= A.sub (A.neg sp) 3 /\ A.sub (A.neg sp) 3 <= 1000000000 /\ -1000000000 <= A.add sp 3 /\ A.add sp 3 <= 1000000000 := by subst hA; show -1000000000 <= -sp - 3 /\ -sp - 3 <= 1000000000 /\ -1000000000 <= sp + 3 /\ sp + 3 <= 1000000000; omega
    have eb4 : ∀ w, A.sub (A.neg sp) 3 <= w -> (w <= A.add sp 3 ∨ w = A.sub (A.neg sp) 3) -> -11 <= w /\ w <= 11 := fun w h1 h2 => by
     have h1 : -sp - 3 <= w := by subst hA; exact h1
     have h2 : w <= sp + 3 ∨ w = -sp - 3 := by subst hA; exact h2
     omega
    cbv;refine Z16 Z0 hA hS [0, 1, 2, 3, 4, 8, 9, 10, 11, 12, 13, 14, 15, 16, 17, 5, 6, 7, 18, 19, 20] rfl rfl fun Dk hDk => ?_;cbv;refine ⟨ef1, ef2, ef3, ef4, ?_⟩;refine Zq hA hDk [.b 0 0, I (A.sub (A.oi k1) 1)] [0] [pot xw] rfl rfl rfl rfl rfl rfl rfl rfl rfl rfl rfl (by decide) ⟨rfl, trivial⟩ (Zj0 xw _ eb1 _ fun j xj hj1 hj2 => ⟨by cbv, Zx Z0 hA hDk ?_⟩);obtain ⟨jn, hjI, hjk⟩ := eb2 j hj1 hj2;obtain ⟨tn, hT1, hT2⟩ := hTg jn hjk;have hin := Z4o hA hjI hjk;have hgt := Z18 hA hjI hT1;cbv;refine ⟨hin, Need.mk ⟨_, hgt, ?_⟩⟩;cbv;refine Zq hA hDk [.b 0 0, I (A.sub (A.neg sp) 3), I (A.add sp 3)] [0] [pot xj] rfl rfl rfl rfl rfl rfl rfl rfl rfl rfl rfl (by decide) ⟨rfl, trivial⟩ (Zn3 xj _ _ eb3 _ fun w xk hw1 hw2 => ⟨by cbv; repeat' (first | exact trivial | exact hin | exact Need.mk ⟨_, hgt, rfl⟩ | refine ⟨?_, ?_⟩), Zx Z0 hA hDk ?_⟩);have hwb := eb4 w hw1 hw2;obtain ⟨m, hm⟩ : ∃ m, m = A.add tn w := ⟨_, rfl⟩;have hmb : -17 <= m /\ m <= 17 := by rw [hm]; subst hA; show -17 <= tn + w /\ tn + w <= 17; omega
    cbv;refine ⟨by subst hA; exact Zbu (n := tn + w) (by omega), ?_⟩;refine Z3h hS (Zo7 15 (I m) rfl (WkD.eq (congrArg (fun v => D.v (.int .i64 v)) hm.symm)) (Z7 ?_));clear hDk;refine Z16 Z0 hA hS [0, 1, 2, 3, 4, 5, 6, 10, 7, 8, 9, 11] rfl rfl fun Dk hDk => ?_;cbv;refine ⟨by subst hA; exact Zbu (n := m + due) (by omega), ?_⟩;refine Zq hA hDk [.b 0 0, I (A.add m due), I 1] [0] [pot xk] rfl rfl rfl rfl rfl rfl rfl rfl rfl rfl rfl (by decide) ⟨rfl, trivial⟩ (Z1zm xk _ (by subst hA; show -100000 <= m + due /\ m + due <= 100000; omega) _ fun a b c d xs hs => ⟨by cbv, Zx Z0 hA hDk ?_⟩);have hhs := hhs a b c d hs;cbv;refine ⟨Ze hA v4, Ze hA rfl, Z27 hA hk3 (by decide), hfs, ?_⟩;refine Z8 (A.sub i 1, xs, A.addN k 1, _, _) [0, 1, 2, 3, 7, 5] ⟨w1, w2, hln _, hhs⟩ w3 (by
     exact ⟨by decide, Z2n, ⟨rfl, rfl, rfl, rfl, rfl, rfl, trivial⟩, ⟨rfl, rfl, rfl, rfl, rfl, rfl, rfl, trivial⟩, rfl, rfl⟩)
   ·cbv;refine Z16 Z0 hA hS [0, 1, 2, 3, 4, 5, 6, 10, 7, 8, 9, 11] rfl rfl fun Dk hDk => ?_;cbv;refine ⟨by subst hA; exact Zbu (n := n + due) (by omega), ?_⟩;refine Zq hA hDk [.b 0 0, I (A.add n due), I 1] [0] [pot xw] rfl rfl rfl rfl rfl rfl rfl rfl rfl rfl rfl (by decide) ⟨rfl, trivial⟩ (Z1zm xw _ (by subst hA; show -100000 <= n + due /\ n + due <= 100000; omega) _ fun a b c d xs hs => ⟨by cbv, Zx Z0 hA hDk ?_⟩);have hhs := hhs a b c d hs;cbv;refine ⟨Ze hA v4, Ze hA rfl, Z27 hA hk3 (by decide), hfs, ?_⟩;refine Z8 (A.sub i 1, xs, A.addN k 1, _, _) [0, 1, 2, 3, 7, 5] ⟨w1, w2, hln _, hhs⟩ w3 (by
     exact ⟨by decide, Z2n, ⟨rfl, rfl, rfl, rfl, rfl, rfl, trivial⟩, ⟨rfl, rfl, rfl, rfl, rfl, rfl, rfl, trivial⟩, rfl, rfl⟩)
  ·cbv;refine Z7 ?_;cbv;refine Z4 hS [.b 0 0, I 0, I 1] [0] [pot xx] rfl rfl rfl rfl rfl rfl rfl rfl (by decide) ⟨rfl, trivial⟩ (Z27h xx _ fun p0 p1 t0 t1 r0 r1 u0 u1 d0 d1 x0 x1 y0 y1 least wi me2 xj hF => Z3 Z0 hA hS ?_);have hqq := hq f st sp pr note me t0 t1 r0 r1 u0 u1 d0 d1 x0 x1 y0 y1 least k1 k LS HS ls hs xj ⟨hf, hst, hsp, hpr, hnote, hme, hF⟩ v6 v7 hLl v4 hk2 hk2';cbv;refine Z16 Z0 hA hS [0, 1, 2, 3, 4, 5, 6, 7, 8, 9, 10, 11, 12, 13] rfl rfl fun Dk hDk => ?_;cbv;exact Z2 [0, 3, 4] (by decide) Z2n (H' := [pot xj, .els 4 LS, .els 4 HS]) (d' := .agg [I f, I st, I sp, I pr, I note, .o 1 4 k1, .o 2 4 k, I t0, I t1, I r0, I r1, I u0, I u1, I d0, I d1, I x0, I x1, I y0, I y1, I least, I me]) ⟨rfl, rfl, rfl, trivial⟩ rfl (Z1 hqq)
end Go.Proofs.YtggilmnhgjofiaaGreat

namespace Go.Proofs.YtggilmnhgjofiaaGreat
open Go Go.Abs Go.Proofs
theorem Z1vh (n lo hi : Int) (h : lo <= n /\ n <= hi) (Q) (hq : Q (RA.ret (.v (.bool true))) []) : CallA Tryz.prog 65 [I n, I lo, I hi] [] Q := by
 refine Z1w3 n lo hi Q ?_;rw [decide_eq_true h.1, decide_eq_true h.2]; exact hq
set_option maxRecDepth 40000 in
theorem Z23t (f st sp pr : Int) (hf : 0 <= f /\ f <= 30) (hst : -5 <= st /\ st <= 5) (hsp : 0 <= sp /\ sp <= 20) (hpr : 0 <= pr /\ pr <= 3) (Q) (hq : Q (RA.ret (I 0)) []) : CallA Tryz.prog 92 [.agg [I f, I st, I sp, I pr]] [] Q := by
 obtain ⟨A, hA⟩ : ∃ A, A = ar := ⟨_, rfl⟩;refine Z5 Z0 hA Tryz.func92 rfl rfl rfl rfl rfl fun S hS => ?_;cbv;refine Z4 hS [I f, I 0, I 30] [] [] rfl rfl rfl rfl rfl rfl rfl rfl (by decide) trivial (Z1vh f 0 30 hf _ (Z3 Z0 hA hS ?_));cbv;refine bmF (by subst hA; rfl) ?_;cbv;refine Zg hS (b := false) rfl rfl rfl rfl rfl rfl rfl rfl (fun _ => ⟨[], _, [I st, I (-5), I 5], [], [], rfl, rfl, rfl, by decide, trivial, Z1vh st (-5) 5 hst _ (Z3 Z0 hA hS ?_)⟩) (fun h => absurd rfl h);cbv;refine bmF (by subst hA; rfl) ?_;cbv;refine Zg hS (b := false) rfl rfl rfl rfl rfl rfl rfl rfl (fun _ => ⟨[], _, [I sp, I 0, I 20], [], [], rfl, rfl, rfl, by decide, trivial, Z1vh sp 0 20 hsp _ (Z3 Z0 hA hS ?_)⟩) (fun h => absurd rfl h);cbv;refine bmF (by subst hA; rfl) ?_;cbv;refine Zg hS (b := false) rfl rfl rfl rfl rfl rfl rfl rfl (fun _ => ⟨[], _, [I pr, I 0, I 3], [], [], rfl, rfl, rfl, by decide, trivial, Z1vh pr 0 3 hpr _ (Z3 Z0 hA hS ?_)⟩) (fun h => absurd rfl h);cbv;refine bmF (by subst hA; rfl) ?_;cbv;exact Z2 (H' := []) (d' := I 0) [] (by simp) (fun i hi => absurd hi (by simp)) trivial rfl (Z1 hq)
set_option maxRecDepth 40000 in
set_option maxHeartbeats 4000000 in
theorem Z20u (a b c d : Int) (h : OkS a b c d) (Q) (hq : Q (RA.ret (I 0)) []) : CallA Tryz.prog 111 [.agg [I a, I b, I c, I d]] [] Q := by
 obtain ⟨A, hA⟩ : ∃ A, A = ar := ⟨_, rfl⟩;obtain ⟨⟨h1, h2, h3⟩, h4, h5, h6⟩ := h;have n1 : A.neg 30 = -30 := by subst hA; rfl
 have n2 : A.neg 3 = -3 := by subst hA; rfl
 refine Z5 Z0 hA Tryz.func111 rfl rfl rfl rfl rfl fun S hS => ?_;cbv;refine Z1xz Z0 hA hS [3] 3 fun L1 hL1 => ?_;cbv;refine bmT (by subst hA; rfl) ?_;cbv;refine Z4j Z0 hA hS [0] [1, 2, 3, 4] rfl ?_;cbv;refine Z2g hS rfl rfl rfl (Z1ww Z0 rfl rfl rfl rfl rfl rfl rfl (by decide) [_, _] rfl ?_);refine Z3 Z0 hA hS ?_;cbv;refine bmF (by subst hA; rfl) ?_;cbv;refine ⟨by subst hA; exact Zbu (n := -30) (by omega), ?_⟩;refine Z4 hS [I a, I (A.neg 30), I 30] [] [] rfl rfl rfl rfl rfl rfl rfl rfl (by decide) trivial (Z1vh a _ 30 (by rw [n1]; omega) _ (Z3 Z0 hA hS ?_));cbv;refine bmF (by subst hA; rfl) ?_;cbv;refine ⟨by subst hA; exact Zbu (n := -30) (by omega), ?_⟩;refine Zg hS (b := false) rfl rfl rfl rfl rfl rfl rfl rfl (fun _ => ⟨[], _, [I b, I (A.neg 30), I 30], [], [], rfl, rfl, rfl, by decide, trivial, Z1vh b _ 30 (by rw [n1]; omega) _ (Z3 Z0 hA hS ?_)⟩) (fun h => absurd rfl h);cbv;refine bmF (by subst hA; rfl) ?_;cbv;refine bmF (by subst hA; exact decide_eq_false (by show ¬ (b < a); omega)) ?_;cbv;refine ⟨by subst hA; exact Zbu (n := 1) (by omega), ?_⟩;refine Z1x7 Z0 hA hS [3] hL1 fun L2 hL2 => ?_;cbv;refine bmT (by subst hA; rfl) ?_;cbv;refine Z3h hS (Zo7 11 (I 1) rfl (WkD.eq (by subst hA; rfl)) (Z7 ?_));refine Z4j Z0 hA hS [0] [1, 2, 3, 4] rfl ?_;cbv;refine Z2g hS rfl rfl rfl (Z1ww Z0 rfl rfl rfl rfl rfl rfl rfl (by decide) [_, _] rfl ?_);refine Z3 Z0 hA hS ?_;cbv;refine bmT (by subst hA; rfl) ?_;cbv;refine ⟨by subst hA; exact Zbu (n := -3) (by omega), ?_⟩;refine Z4 hS [I c, I (A.neg 3), I 3] [] [] rfl rfl rfl rfl rfl rfl rfl rfl (by decide) trivial (Z1vh c _ 3 (by rw [n2]; omega) _ (Z3 Z0 hA hS ?_));cbv;refine bmF (by subst hA; rfl) ?_;cbv;refine ⟨by subst hA; exact Zbu (n := -3) (by omega), ?_⟩;refine Zg hS (b := false) rfl rfl rfl rfl rfl rfl rfl rfl (fun _ => ⟨[], _, [I d, I (A.neg 3), I 3], [], [], rfl, rfl, rfl, by decide, trivial, Z1vh d _ 3 (by rw [n2]; omega) _ (Z3 Z0 hA hS ?_)⟩) (fun h => absurd rfl h);cbv;refine bmF (by subst hA; rfl) ?_;cbv;refine bmF (by subst hA; exact decide_eq_false (by show ¬ (d < c); omega)) ?_;cbv;refine ⟨by subst hA; exact Zbu (n := 2) (by omega), ?_⟩;refine Z1x7 Z0 hA hS [3] hL2 fun L3 hL3 => ?_;cbv;refine bmF (by subst hA; rfl) ?_;cbv;exact Z2 (H' := []) (d' := I 0) [] (by simp) (fun i hi => absurd hi (by simp)) trivial rfl (Z1 hq)
set_option maxRecDepth 40000 in
set_option maxHeartbeats 4000000 in
theorem Z1xn (most : Int) (L : List D) (l : List Sd) (hL : RowS L l) (hl : (L.length : Int) <= most) (hm : most <= 1000) (Q) (hq : Q (RA.ret (I 0)) []) : CallA Tryz.prog 93 [.sl 4 L, I most] [] Q := by
 obtain ⟨A, hA⟩ : ∃ A, A = ar := ⟨_, rfl⟩;have hg : ∀ k, k < L.length -> ∃ a b c d, L[k]? = some (.agg [I a, I b, I c, I d]) /\ OkS a b c d := fun k hk => by
  have hk' : k < l.length := by rw [hL.len]; exact hk
  exact ⟨l[k].a, l[k].b, l[k].c, l[k].d, by rw [hL.eq]; simp [hk', sD], hL.ok _ (List.getElem_mem hk')⟩
 obtain ⟨N, hN⟩ : ∃ N, N = L.length := ⟨_, rfl⟩;rw [<- hN] at hg hl;have hN1 : N <= 1000 := by omega
 have hgt : A.cmp .gtr (A.oi (A.len L)) most = false := by subst hA; exact decide_eq_false (by show ¬ (most < (L.length : Nat)); rw [<- hN]; omega)
 refine Z5 Z0 hA Tryz.func93 rfl rfl rfl rfl rfl fun S hS => ?_;cbv;refine bmF hgt ?_;cbv;refine Zb hS ?_;refine Za (α := Int × Nat) (fun q => { env := [(4, I 0), (12, .sl 4 L), (13, I (A.oi (A.len L))), (14, I q.1)], H := [], nt := 24, dfs := [] })
  (fun q => N - q.2) (fun q => IsI q.1 q.2 /\ q.2 <= N) (0, 0) ⟨⟨rfl⟩, Nat.zero_le _⟩ ?_ ?_
 ·exact Zf [] ⟨by decide, Z9, trivial, ⟨rfl, rfl, rfl, rfl, trivial⟩, rfl, rfl⟩
 rintro ⟨i, k⟩ ⟨u1, u2⟩;dsimp only at u1 u2;refine Zi Z0 hA hS ?_;cbv;refine bm (fun cc => ?_) (fun cc => ?_)
 ·have hk := Z31 hA hN.symm u1 cc;obtain ⟨a, b, c, d, g1, g2⟩ := hg k hk;have hin := Z1b hA hN.symm u1 hk;have hget := Z18 hA u1 g1;have hf1 := Zy hA u1 (by omega);have hu1 := Zz hA u1;have hms : N - (k + 1) < N - k := by omega
  cbv;refine ⟨hin, Need.mk ⟨_, hget, ?_⟩⟩;cbv;refine Z4 hS [.agg [I a, I b, I c, I d]] [] [] rfl rfl rfl rfl rfl rfl rfl rfl (by decide) trivial (Z20u a b c d g2 _ (Z3 Z0 hA hS ?_));cbv;refine bmF (by subst hA; rfl) ?_;cbv;refine ⟨hf1, ?_⟩;refine Z8 (A.add i 1, k + 1) [] ⟨hu1, hk⟩ hms ?_;exact ⟨by decide, Z9, trivial, ⟨rfl, rfl, rfl, rfl, trivial⟩, rfl, rfl⟩
 ·cbv;refine Z7 ?_;cbv;exact Z1 hq
def bxD (f st sp pr note : Int) (LS HS : List D) (t0 t1 r0 r1 u0 u1 d0 d1 x0 x1 y0 y1 least me : Int) : D :=
 .agg [I f, I st, I sp, I pr, I note, .sl 4 LS, .sl 4 HS, I t0, I t1, I r0, I r1, I u0, I u1, I d0, I d1, I x0, I x1, I y0, I y1, I least, I me]
set_option maxRecDepth 40000 in
theorem Z259 (f st sp pr note t0 t1 r0 r1 u0 u1 d0 d1 x0 x1 y0 y1 least me : Int) (LS HS) (Q) (hq : Q (RA.ret (.agg [I 0, I 0, I t0, I t1, I r0, I r1, I u0, I u1, I d0, I d1, I x0, I x1, I y0, I y1, I least, .v (.slice none 0 0), I sp, I me])) []) :
  CallA Tryz.prog 66 [bxD f st sp pr note LS HS t0 t1 r0 r1 u0 u1 d0 d1 x0 x1 y0 y1 least me] [] Q := by
 obtain ⟨A, hA⟩ : ∃ A, A = ar := ⟨_, rfl⟩;refine Z5 Z0 hA Tryz.func66 rfl rfl rfl rfl rfl fun S hS => ?_;cbv;refine Z16 Z0 hA hS [0, 1, 2, 3, 4, 5, 6, 7, 8, 9, 10, 11, 12, 13, 14, 15, 16, 17, 18, 19, 20, 21, 22] rfl rfl fun Dk hDk => ?_;cbv;exact Z2 (H' := []) (d' := .agg [I 0, I 0, I t0, I t1, I r0, I r1, I u0, I u1, I d0, I d1, I x0, I x1, I y0, I y1, I least, .v (.slice none 0 0), I sp, I me]) [] (by simp) (fun i hi => absurd hi (by simp)) trivial rfl (Z1 hq)
end Go.Proofs.YtggilmnhgjofiaaGreat

namespace Go.Proofs.YtggilmnhgjofiaaGreat
open Go Go.Abs Go.Proofs
def blJ (sp me t0 t1 r0 r1 u0 u1 d0 d1 x0 x1 y0 y1 least : Int) : JbP := ⟨0, 0, t0, t1, r0, r1, u0, u1, d0, d1, x0, x1, y0, y1, least, [], sp, me, 0, 0⟩
theorem blOk {f st sp pr note me t0 t1 r0 r1 u0 u1 d0 d1 x0 x1 y0 y1 least : Int} (hB : OkB f st sp pr note me t0 t1 r0 r1 u0 u1 d0 d1 x0 x1 y0 y1 least) : OkJ (blJ sp me t0 t1 r0 r1 u0 u1 d0 d1 x0 x1 y0 y1 least) [] := by
 obtain ⟨-, -, hsp, -, -, hme, ht, hr, hu, hd, hx, hy, hl⟩ := hB;refine ⟨?_, ht, hr, ?_, ?_, hx, hy, hl, rfl, by decide, fun s h => absurd h (by simp), ?_, ?_⟩
 ·simp [InR, blJ]
 ·simp only [InR, blJ] at hu ⊢; omega
 ·simp only [InR, blJ] at hd ⊢; omega
 ·simp only [blJ]; omega
 ·simp only [blJ]; omega
set_option maxRecDepth 40000 in
set_option maxHeartbeats 8000000 in
theorem Z269 (f st sp pr note me t0 t1 r0 r1 u0 u1 d0 d1 x0 x1 y0 y1 least : Int) (hB : OkB f st sp pr note me t0 t1 r0 r1 u0 u1 d0 d1 x0 x1 y0 y1 least) (LS HS : List D) (ls hs : List Sd) (hL : RowS LS ls) (hH : RowS HS hs) (hl : LS.length <= 2) (hh : HS.length <= 2) (Q) (hq : Q (RA.ret (I 0)) []) : CallA Tryz.prog 64 [bxD f st sp pr note LS HS t0 t1 r0 r1 u0 u1 d0 d1 x0 x1 y0 y1 least me] [] Q := by
 obtain ⟨A, hA⟩ : ∃ A, A = ar := ⟨_, rfl⟩;have hJ := blOk hB;have hdb := Z20d hB.f hB.st hB.note;obtain ⟨b1, b2⟩ := hB.f;obtain ⟨b3, b4⟩ := hB.st;obtain ⟨b5, b6⟩ := hB.sp;obtain ⟨b7, b8⟩ := hB.pr;obtain ⟨b9, b10⟩ := hB.note;obtain ⟨due, hdue⟩ : ∃ due, due = f + st * note := ⟨_, rfl⟩;have hDue := lDue f st sp pr note due hdue (by omega) (by simp only [Z1tm]; omega);rw [<- hdue] at hdb;have hdb := hdb.2;clear hdue;refine Z5 Z0 hA Tryz.func64 rfl rfl rfl rfl rfl fun S hS => ?_;cbv;refine Z4 hS [.agg [I f, I st, I sp, I pr]] [] [] rfl rfl rfl rfl rfl rfl rfl rfl (by decide) trivial (Z23t f st sp pr (by omega) (by omega) (by omega) (by omega) _ (Z3 Z0 hA hS ?_));cbv;refine bmF (by subst hA; rfl) ?_;cbv;refine Z4 hS [I note, I 0, I 11] [] [] rfl rfl rfl rfl rfl rfl rfl rfl (by decide) trivial (Z1vh note 0 11 (by omega) _ (Z3 Z0 hA hS ?_));cbv;refine bmF (by subst hA; rfl) ?_;cbv;refine Zg hS (b := false) rfl rfl rfl rfl rfl rfl rfl rfl (fun _ => ⟨[], _, [.agg [I f, I st, I sp, I pr], I note], [], [], rfl, rfl, rfl, by decide, trivial, hDue _ (Z3 Z0 hA hS ?_)⟩) (fun h => absurd rfl h);cbv;refine Zg hS (b := false) rfl rfl rfl rfl rfl rfl rfl rfl (fun _ => ⟨[], _, [I due, I 0, I 30], [], [], rfl, rfl, rfl, by decide, trivial, Z1vh due 0 30 (by omega) _ (Z3 Z0 hA hS ?_)⟩) (fun h => absurd rfl h);cbv;refine bmF (by subst hA; rfl) ?_;cbv;refine Z4 hS [.sl 4 LS, I 4] [] [] rfl rfl rfl rfl rfl rfl rfl rfl (by decide) trivial (Z1xn 4 LS ls hL (by omega) (by decide) _ (Z3 Z0 hA hS ?_));cbv;refine bmF (by subst hA; rfl) ?_;cbv;refine Z4 hS [.sl 4 HS, I 5] [] [] rfl rfl rfl rfl rfl rfl rfl rfl (by decide) trivial (Z1xn 5 HS hs hH (by omega) (by decide) _ (Z3 Z0 hA hS ?_));cbv;refine bmF (by subst hA; rfl) ?_;cbv;refine Z4 hS [bxD f st sp pr note LS HS t0 t1 r0 r1 u0 u1 d0 d1 x0 x1 y0 y1 least me] [] [] rfl rfl rfl rfl rfl rfl rfl rfl (by decide) trivial (Z259 f st sp pr note t0 t1 r0 r1 u0 u1 d0 d1 x0 x1 y0 y1 least me LS HS _ (Z3 Z0 hA hS ?_));cbv;refine Z26 hS (Zo7 38 (jDat (blJ sp me t0 t1 r0 r1 u0 u1 d0 d1 x0 x1 y0 y1 least)) rfl (WkD.agg ⟨WkD.rfl, WkD.rfl, WkD.rfl, WkD.rfl, WkD.rfl, WkD.rfl, WkD.rfl, WkD.rfl, WkD.rfl, WkD.rfl, WkD.rfl, WkD.rfl, WkD.rfl, WkD.rfl, WkD.rfl, WkD.nil, WkD.rfl, WkD.rfl, trivial⟩) (Z7 ?_));refine Z4 hS [jDat (blJ sp me t0 t1 r0 r1 u0 u1 d0 d1 x0 x1 y0 y1 least)] [] [] rfl rfl rfl rfl rfl rfl rfl rfl (by decide) trivial (Z1xq _ [] hJ _ (Z3 Z0 hA hS ?_));cbv;exact Z2 (H' := []) (d' := I 0) [] (by simp) (fun i hi => absurd hi (by simp)) trivial rfl (Z1 hq)
set_option maxRecDepth 40000 in
set_option maxHeartbeats 8000000 in
theorem Z1xs (f st sp pr note me t0 t1 r0 r1 u0 u1 d0 d1 x0 x1 y0 y1 least : Int) (hB : OkB f st sp pr note me t0 t1 r0 r1 u0 u1 d0 d1 x0 x1 y0 y1 least) (LS HS : List D) (ls hs : List Sd) (hL : RowS LS ls) (hH : RowS HS hs) (hl : LS.length <= 2) (hh : HS.length <= 2) (lo hi : Int) (hlo : 0 <= lo /\ lo < LS.length) (hhi : 0 <= hi /\ hi < HS.length) (Q) (hq : Q (RA.ret (I 0)) []) : CallA Tryz.prog 33 [bxD f st sp pr note LS HS t0 t1 r0 r1 u0 u1 d0 d1 x0 x1 y0 y1 least me, I lo, I hi] [] Q := by
 obtain ⟨A, hA⟩ : ∃ A, A = ar := ⟨_, rfl⟩;have hck := Z269 f st sp pr note me t0 t1 r0 r1 u0 u1 d0 d1 x0 x1 y0 y1 least hB LS HS ls hs hL hH hl hh;have e1 : lo <= A.sub (A.oi (A.len LS)) 1 := by subst hA; show lo <= (LS.length : Int) - 1; omega
 have e2 : hi <= A.sub (A.oi (A.len HS)) 1 := by subst hA; show hi <= (HS.length : Int) - 1; omega
 have f1 : A.fits .i64 (A.sub (A.oi (A.len LS)) 1) := by subst hA; exact Zbu (n := (LS.length : Int) - 1) (by omega)
 have f2 : A.fits .i64 (A.sub (A.oi (A.len HS)) 1) := by subst hA; exact Zbu (n := (HS.length : Int) - 1) (by omega)
 refine Z5 Z0 hA Tryz.func33 rfl rfl rfl rfl rfl fun S hS => ?_;cbv;refine Z4 hS [bxD f st sp pr note LS HS t0 t1 r0 r1 u0 u1 d0 d1 x0 x1 y0 y1 least me] [] [] rfl rfl rfl rfl rfl rfl rfl rfl (by decide) trivial (hck _ (Z3 Z0 hA hS ?_));cbv;refine bmF (by subst hA; rfl) ?_;cbv;refine ⟨f1, ?_⟩;refine Z4 hS [I lo, I 0, I (A.sub (A.oi (A.len LS)) 1)] [] [] rfl rfl rfl rfl rfl rfl rfl rfl (by decide) trivial (Z1vh lo 0 _ ⟨hlo.1, e1⟩ _ (Z3 Z0 hA hS ?_));cbv;refine bmF (by subst hA; rfl) ?_;cbv;refine ⟨f2, ?_⟩;refine Zg hS (b := false) rfl rfl rfl rfl rfl rfl rfl rfl (fun _ => ⟨[], _, [I hi, I 0, I (A.sub (A.oi (A.len HS)) 1)], [], [], rfl, rfl, rfl, by decide, trivial, Z1vh hi 0 _ ⟨hhi.1, e2⟩ _ (Z3 Z0 hA hS ?_)⟩) (fun h => absurd rfl h);cbv;refine bmF (by subst hA; rfl) ?_;cbv;exact Z2 (H' := []) (d' := I 0) [] (by simp) (fun i hi => absurd hi (by simp)) trivial rfl (Z1 hq)
end Go.Proofs.YtggilmnhgjofiaaGreat

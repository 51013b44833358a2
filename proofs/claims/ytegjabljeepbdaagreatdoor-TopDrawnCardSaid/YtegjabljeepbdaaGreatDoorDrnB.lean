/- Part DrnB of the proofs about the benches of the accordion maker: see the last text of the claim for what is proved. -/
import Derived.Test.YtegjabljeepbdaaGreatDoorDrnA
import Derived.Test.YtegjabljeepbdaaGreatDoorRunQ
import Derived.Test.YtegjabljeepbdaaGreatDoorRunR
import Derived.Test.YtegjabljeepbdaaGreatDoorRunT
import Derived.Test.YtegjabljeepbdaaGreatDoorRunY
set_option linter.unusedVariables false
set_option linter.unusedSimpArgs false
set_option linter.unnecessarySimpa false
set_option linter.constructorNameAsVariable false

namespace Go.Proofs.YtegjabljeepbdaaGreatDoor
open Go Go.Abs Go.Proofs Go.Batch
open Bn (Sl Sh Tk Wk Z14v Z14z Z14x runS Z151 ShopOk PlanOk PlanLe Val mo0 OkS Z15w ofBn frB)
def insF : List Int -> Nat -> List Mv
 | [], _ => []
 | n :: l, b => mIn b n n :: mIn b 5 5 :: insF l (b + 1)
theorem Z1b4 (n : Int) : ∀ (l : List Int) (b : Nat), insF (l ++ [n]) b = insF l b ++ [mIn (b + l.length : Nat) n n, mIn (b + l.length : Nat) 5 5]
 | [], b => by simp [insF]
 | x :: l, b => by
  have := Z1b4 n l (b + 1);simp only [List.cons_append, insF, this, List.length_cons];rw [show b + 1 + l.length = b + (l.length + 1) by omega]
theorem Z1ba : ∀ (l : List Int) (b : Nat), (insF l b).length = 2 * l.length
 | [], _ => rfl
 | x :: l, b => by simp only [insF, List.length_cons, Z1ba l (b + 1)]; omega
set_option maxRecDepth 40000 in
set_option maxHeartbeats 16000000 in
theorem Z1bo (L : List D) (nums : List Int) (hL : L = nums.map I) (hl : L.length <= 9223372036854775807) (Q) (hq : Q (RA.ret (.v (.bool true))) []) : CallA Tryz.prog 4 [.sl 1 L] [] Q := by
 obtain ⟨A, hA⟩ : ∃ A, A = ar := ⟨_, rfl⟩;refine Z38 Z0 hA [12] Tryz.func4 rfl rfl rfl rfl rfl fun S hS => ?_;cbv;refine Z4 hS [.sl 1 L] [] [] rfl rfl rfl rfl rfl rfl rfl rfl (by decide) trivial (Zvp L nums hL hl _ fun x0 => ?_);refine Z3 Z0 hA hS ?_;cbv;refine Z4 hS [.b 0 0] [0] [pot x0] rfl rfl rfl rfl rfl rfl rfl rfl (by decide) ⟨rfl, trivial⟩ (Z1bt x0 _ fun b ts TL x1 hok hb2 hTL => ?_);have hsum : Bn.nWorks ts <= 6 := hok.sum;have htl : ts.length <= 4 := hok.len;have cPl := fun Q h => Bn.planOf x1 ⟨b, ts⟩ (by show Bn.nWorks ts <= 1000; omega) (by show ts.length <= 1000; omega) TL hTL Q h;refine Z3 Z0 hA hS ?_;cbv;refine Z4 hS [.b 0 0, .agg [I b, .sl 3 TL]] [0] [pot x1] rfl rfl rfl rfl rfl rfl rfl rfl (by decide) ⟨rfl, trivial⟩ (cPl _ fun p PL x2 hp hPL => ?_);refine Z3 Z0 hA hS ?_;cbv;refine Zb hS ?_;refine Za (α := Int × Nat × List Int × List D × List D × Int × Nat × Nat) (fun q => { env := [(3, .b 0 0), (4, .cb (.agg [I b, .sl 3 TL]) 0), (5, .sl 1 PL), (6, .b 1 0), (7, .o 2 1 q.2.2.2.2.2.2.1), (8, I q.1)], H := [pot q.2.2.2.2.2.1, .box (.agg [I 4, .sl 1 [Zv true, Zv true], .o 3 5 q.2.2.2.2.2.2.2]), .els 1 q.2.2.2.1, .els 5 q.2.2.2.2.1], nt := 278, dfs := [] })
  (fun q => 2 - q.2.1) (fun q => q.2.1 <= 2 /\ IsI q.1 q.2.1 /\ q.2.2.1.length = q.2.1 /\ (∀ n ∈ q.2.2.1, 1 <= n /\ n <= 3) /\ q.2.2.2.1 = q.2.2.1.map I /\ q.2.2.2.2.1 = (insF q.2.2.1 0).map mvD /\ q.2.2.2.2.2.2.1 = q.2.1 /\ q.2.2.2.2.2.2.2 = 2 * q.2.1) (0, 0, [], [], [], x2, 0, 0) ⟨Nat.zero_le _, ⟨rfl⟩, rfl, fun n hn => by simp at hn, rfl, rfl, rfl, rfl⟩ ?_ ?_
 ·refine Z1a hA [1, 2] ?_;cbv;refine ⟨by subst hA; rfl, by subst hA; rfl, by subst hA; rfl, ?_⟩;refine Z2a 7 1 rfl ?_;refine Zfk 3 2 5 (.agg [I 4, .sl 1 [Zv true, Zv true], .o 5 5 0]) rfl rfl rfl ?_;exact Zf [0, 3, 4, 5] ⟨by decide, Z9, ⟨rfl, rfl, rfl, rfl, trivial⟩, ⟨rfl, rfl, rfl, rfl, rfl, rfl, trivial⟩, rfl, rfl⟩
 rintro ⟨i, k, ns, FR, MR, x, nf, nm⟩ ⟨u1, u2, u3, u4, u5, u6, u7, u8⟩;dsimp only at u1 u2 u3 u4 u5 u6 u7 u8;have hyes : A.cmp .lss i 2 = true -> k < 2 := fun c => by have := xlt hA c; have := u2.eq; omega
 have hno : A.cmp .lss i 2 = false -> k = 2 := fun c => by have := Z7x hA c; have := u2.eq; omega
 have hFl : FR.length = nf := by rw [u5, List.length_map, u3, u7]
 have hMl : MR.length = nm := by rw [u6, List.length_map, Z1ba, u3, u8]
 refine Z2w Z0 hA hS [] ?_;cbv;refine bm (fun c => ?_) (fun c => ?_)
 ·have hk := hyes c;cbv;refine Z4 hS [.b 0 0, I 1, I 3] [0] [pot x] rfl rfl rfl rfl rfl rfl rfl rfl (by decide) ⟨rfl, trivial⟩ (Zn3 x 1 3 (by decide) _ fun n x' hn1 hn3 => ?_);have hn3 : n <= 3 := by omega
  have hnx : ∀ y ∈ ns ++ [n], 1 <= y /\ y <= 3 := fun y hy => by
   rcases List.mem_append.1 hy with hy | hy
   ·exact u4 y hy
   ·rw [List.mem_singleton.1 hy]; exact ⟨hn1, hn3⟩
  have hrm5 : A.room (A.addN nm 2) 40 := Zj1 hA (by rw [Z2e hA]; omega) (by decide);have hnm2 : A.addN nm 2 = 2 * (k + 1) := by rw [Z2e hA, u8]; omega
  have hMx : A.app MR [.agg [I 1, I i, I 0, I n, I n], .agg [I 1, I i, I 0, I 5, I 5]] = (insF (ns ++ [n]) 0).map mvD := by
   rw [Z33 hA, u6, Z1b4, List.map_append, u3, Nat.zero_add, u2.eq]; rfl
  refine Z3 Z0 hA hS ?_;cbv;refine ⟨Ze hA hFl, Ze hA rfl, Z27 hA (by omega) (by decide), Ze hA hMl, Ze hA rfl, hrm5, Zy hA u2 (by omega), ?_⟩;refine Z8 (A.add i 1, k + 1, ns ++ [n], A.app FR [I n], A.app MR [.agg [I 1, I i, I 0, I n, I n], .agg [I 1, I i, I 0, I 5, I 5]], x', A.addN nf 1, A.addN nm 2) [0, 1, 5, 7] ⟨hk, Zz hA u2, by rw [List.length_append, u3]; rfl, hnx, by rw [Z33 hA, u5, List.map_append]; rfl, hMx, by rw [Z2e hA, u7], hnm2⟩ (by dsimp only; omega) ?_;exact ⟨by decide, Z9, ⟨rfl, rfl, rfl, rfl, trivial⟩, ⟨rfl, rfl, rfl, rfl, rfl, rfl, trivial⟩, rfl, rfl⟩
 ·have hk := hno c;obtain ⟨n0, n1, hn0, hn1, hns⟩ : ∃ n0 n1 : Nat, (1 <= n0 /\ n0 <= 3) /\ (1 <= n1 /\ n1 <= 3) /\ ns = [(n0 : Int), (n1 : Int)] := by
   match ns, u3, u4 with
   | [a0, a1], _, h =>
    have h0 := h a0 (by simp);have h1 := h a1 (by simp);exact ⟨a0.toNat, a1.toNat, by omega, by omega, by rw [Int.toNat_of_nonneg (by omega), Int.toNat_of_nonneg (by omega)]⟩
   | [], h, _ => rw [hk] at h; simp at h
   | [_], h, _ => rw [hk] at h; simp at h
   | _ :: _ :: _ :: _, h, _ => rw [hk] at h; simp at h
  have hFR : FR = [I (n0 : Int), I (n1 : Int)] := by rw [u5, hns]; rfl
  have hMR : MR = (insX n0 n1).map mvD := by rw [u6, hns]; rfl
  have hsh := Bn.okS_shop hok (by decide) (by decide);have hv2 := Bn.chkS_val hsh.chk;have hpl : p.length <= 6 := by rw [hp.len]; exact hsum
  obtain ⟨R, hR⟩ : ∃ R, R = runS ⟨b, ts⟩ mo0 p := ⟨_, rfl⟩;have hRl : R.length = p.length := by rw [hR]; exact Bn.run_len _ p
  have hbnd := Bn.run_bnd hv2 hp.le (by omega);have hfr := fun n b => Bn.frB_sort hv2 hp.le (fs2 n0 n1) n b;have hslot := fun (n : Nat) (x : Sl) h => Bn.run_slot hv2 hp.le (n := n) (x := x) h;rw [<- hR] at hbnd hfr hslot;obtain ⟨T, hT⟩ : ∃ T, T = Z151 R := ⟨_, rfl⟩;rw [<- hT] at hfr;have hTl : T.length = p.length := by rw [hT, Bn.sortB_len, hRl]
  have hTm : ∀ x ∈ T, x ∈ R := fun x hx => by rw [hT] at hx; exact (Bn.sortB_perm R).mem_iff.1 hx
  have hbx : ∀ x ∈ R, (x.b = 0 ∨ x.b = 1) /\ 0 <= x.t /\ x.t < 4 /\ 0 <= x.bh /\ x.bh <= 1000 := fun x hx => by
   obtain ⟨⟨h1, h2⟩, ⟨h3, h4⟩, h5, h6⟩ := hbnd x hx;have h2 : x.b < b := h2;have h4 : x.t < (ts.length : Int) := h4;exact ⟨by omega, h3, by omega, h5, h6⟩
  have hin : InX n0 n1 T := ⟨hn0, hn1, by omega, fun x hx => (hbx x (hTm x hx)).1, fun x hx => ⟨(hbx x (hTm x hx)).2.1, (hbx x (hTm x hx)).2.2.1⟩⟩;have hjo : JOk ⟨4, [true, true], insX n0 n1⟩ := by
   have h : InX n0 n1 [] := ⟨hn0, hn1, by simp, fun x hx => by simp at hx, fun x hx => by simp at hx⟩;have := h.ok;unfold jX at this;rw [List.map_nil, List.append_nil] at this;exact this
  have hdet := hin.all;obtain ⟨FB, hFB⟩ : ∃ FB, FB = [Zv true, Zv true] := ⟨_, rfl⟩;have cWk := fun Q h => Z19g ⟨4, [true, true], insX n0 n1⟩ hjo 4 rfl FB MR hFB hMR ⟨b, ts⟩ hsh b rfl p hp TL PL hTL hPL (fun x hx => by
    rw [<- hR] at hx
    have := hbx x hx
    exact ⟨by omega, by show x.b < 2; omega, by omega, this.2.2.1⟩) (fun x hx => by rw [<- hR] at hx; exact ⟨(hbx x hx).2.2.2.1, (hbx x hx).2.2.2.2⟩) (by show 4 + p.length <= 10; omega) Q h
  rw [<- hR, <- hT] at cWk;have cRn := fun Q h => Bn.bRunPlan ⟨b, ts⟩ hsh p hp TL PL hTL hPL Q h;rw [show (fun _ => (0 : Int)) = mo0 from rfl, <- hR] at cRn;have eF : A.eqN nf (A.len FR) := Ze hA hFl;have eM : A.eqN nm (A.len MR) := Ze hA hMl;cbv;refine Z1a hA [2, 3] ?_;cbv;refine ⟨eF, eM, ?_⟩;refine Z1a hA [1] ?_;cbv;refine Z60 (a := { env := [(4, .cb (.agg [I b, .sl 3 TL]) 0), (5, .sl 1 PL), (6, .cb (.agg [I 4, .sl 1 FB, .sl 5 MR]) 0), (7, .sl 1 FR)], H := [], nt := 278, dfs := [] }) [] ⟨by decide, Z9, trivial, ⟨rfl, rfl, by rw [hFB]; rfl, rfl, trivial⟩, rfl, rfl⟩ ?_;refine Z7 (Zb hS (Z2w Z0 hA hS [17] ?_));cbv;refine Z4 hS [.agg [I 4, .sl 1 FB, .sl 5 MR], .agg [I b, .sl 3 TL], .sl 1 PL] [] [] rfl rfl rfl rfl rfl rfl rfl rfl (by decide) trivial (cWk _ fun MX hMX => ?_);have md : MdJ (jX n0 n1 T) 4 4 2 (4 + p.length) FB MX := ⟨hin.ok, hdet.stands, rfl, ⟨rfl⟩, hFB, hMX, rfl, by show (insX n0 n1 ++ T.map outM).length = _; rw [List.length_append, List.length_map, hTl]; rfl⟩;have hNB : 4 = (Z6 (jX n0 n1 T).moves).length := by rw [Z1aw]; rfl
  refine Z3 Z0 hA hS ?_;cbv;refine Z4 hS [.agg [I b, .sl 3 TL], .sl 1 PL] [] [] rfl rfl rfl rfl rfl rfl rfl rfl (by decide) trivial (cRn _ fun RL hRL => ?_);have hRLl : RL.length = p.length := by rw [hRL, List.length_map, hRl]
  have hPl : PL.length = p.length := by rw [hPL]; simp [Z15w]
  refine Z3 Z0 hA hS ?_;cbv;refine Z4 hS [.agg [I 4, .sl 1 FB, .sl 5 MX]] [] [] rfl rfl rfl rfl rfl rfl rfl rfl (by decide) trivial (md.holds _ fun HL hHL => ?_);have n00 : A.cmp .neq 0 0 = false := by subst hA; rfl
  have hHLl : HL.length = 4 := by rw [hHL, hdet.holdsJ, List.length_map, List.length_map]; rfl
  have c1 : A.cmp .neq (A.oi (A.len RL)) (A.oi (A.len PL)) = false := by rw [yoiL hA hRLl, yoiL hA hPl]; subst hA; simp [ar, Z25]
  have c2 : A.cmp .neq (A.oi (A.len HL)) 4 = false := by rw [yoiL hA hHLl]; subst hA; rfl
  refine Z3 Z0 hA hS ?_;cbv;refine bmF n00 ?_;cbv;refine bmF n00 ?_;cbv;refine bmF n00 ?_;cbv;refine bmF c1 ?_;cbv;refine bmF c2 ?_;cbv;refine Z3h hS (Z1a hA [0] ?_);cbv;refine Z60 (a := { env := [(5, .sl 1 PL), (7, .sl 1 FR), (10, .cb (.agg [I 4, .sl 1 FB, .sl 5 MX]) 0), (12, .sl 7 RL), (14, .sl 1 HL)], H := [], nt := 278, dfs := [] }) [] ⟨by decide, Z9, trivial, ⟨rfl, rfl, rfl, rfl, rfl, trivial⟩, rfl, rfl⟩ ?_;have hnn : A.nneg 4 := by subst hA; show (0 : Int) <= 4; decide
  have htn : A.tn 4 = 4 := by subst hA; rfl
  have hrm : A.room (A.tn 4) 8 := by rw [htn]; exact Zj1 hA (by decide) (by decide)
  refine Z7 (Zb hS (Z2w Z0 hA hS [] ?_));cbv;refine Z16 Z0 hA hS [0, 1, 2, 3, 4, 5, 6, 7] rfl rfl fun Dk hD => ?_;cbv;have hrep : A.rep (A.tn 4) (I 0) = z4L := by rw [htn]; subst hA; rfl
  refine ⟨hnn, hrm, hnn, hrm, hnn, hrm, hnn, hrm, ?_⟩;refine Zb hS (Ziq ?_);refine Z39 1 rfl hrep (Z39 2 rfl hrep (Z39 3 rfl hrep (Z39 4 rfl hrep (Zog 5 rfl (congrArg (fun n => Blk.elo 1 [.o 1 1 n, .o 2 1 n, .o 3 1 n, .o 4 1 n]) htn) ?_))));refine Z60 (a := { env := [(5, .sl 1 PL), (7, .sl 1 FR), (10, .cb (.agg [I 4, .sl 1 FB, .sl 5 MX]) 0), (12, .sl 7 RL), (14, .sl 1 HL), (16, .o 0 1 2), (17, .o 1 1 4), (18, I 0)], H := [.els 1 [I 0, I 0], .elo 1 [.o 2 1 4, .o 3 1 4, .o 4 1 4, .o 5 1 4], .els 1 z4L, .els 1 z4L, .els 1 z4L, .els 1 z4L], nt := 278, dfs := [] }) [0, 5, 1, 2, 3, 4] ⟨by decide, Z9, ⟨rfl, rfl, rfl, rfl, rfl, rfl, trivial⟩, ⟨rfl, rfl, rfl, rfl, rfl, rfl, rfl, rfl, trivial⟩, rfl, rfl⟩ ?_;refine Z1bm (sl := 17) (n0 := 4) rfl fun GE0 GN0 hH0 => Z7 ?_;have hH0 : HasI (fun n b => ((frB (fs2 n0 n1) (R.take 0) n b : Nat) : Int)) 4 4 GE0 GN0 := hH0.congr fun n b _ _ => by rw [List.take_zero, Bn.frB_nil]; rfl
  clear hrep hnn htn hrm;refine Za (α := Int × Nat × List D × List D × List Ent) (fun q => { env := [(5, .sl 1 PL), (7, .sl 1 FR), (10, .cb (.agg [I 4, .sl 1 FB, .sl 5 MX]) 0), (12, .sl 7 RL), (14, .sl 1 HL), (16, .o 0 1 2), (17, .o 1 1 4), (18, I q.1)], H := [.els 1 q.2.2.1, .els 1 q.2.2.2.1, .ob (.gr 1 q.2.2.2.2)], nt := 278, dfs := [] })
   (fun q => p.length - q.2.1) (fun q => q.2.1 <= p.length /\ IsI q.1 q.2.1 /\ q.2.2.1 = Bn.bnL (R.take q.2.1) /\ HasI (fun n b => ((frB (fs2 n0 n1) (R.take q.2.1) n b : Nat) : Int)) 4 4 q.2.2.2.1 q.2.2.2.2) (0, 0, [I 0, I 0], GE0, GN0) ⟨Nat.zero_le _, ⟨rfl⟩, rfl, hH0⟩ ?_ ?_
  ·exact Zf [0, 1, 6] ⟨by decide, Z9, ⟨rfl, rfl, rfl, trivial⟩, ⟨rfl, rfl, rfl, rfl, rfl, rfl, rfl, rfl, trivial⟩, rfl, rfl⟩
  rintro ⟨i, k, TK, GE, GN⟩ ⟨w1, w2, w3, w4⟩;dsimp only at w1 w2 w3 w4
  by_cases hkp : k < p.length
  ·obtain ⟨x, hx⟩ : ∃ x, R[k]? = some x := ⟨_, List.getElem?_eq_getElem (by omega)⟩;have hxm := List.mem_of_getElem? hx;obtain ⟨hxb, hxt0, hxt4, -, -⟩ := hbx x hxm;have hsl := hslot k x hx;have gP0 : PL[k]? = some (I x.t) := by rw [hPL]; show (p.map fun i => I (i : Nat))[k]? = _; rw [List.getElem?_map, hsl.i]; show some (I ((x.t.toNat : Nat) : Int)) = _; rw [<- hsl.t]
   have gR0 : RL[k]? = some (Z14v x) := by rw [hRL, List.getElem?_map, hx]; rfl
   have htk : R.take (k + 1) = R.take k ++ [x] := by rw [List.take_add_one, hx]; rfl
   obtain ⟨c, hc2, hcb⟩ : ∃ c : Nat, c < 2 /\ x.b = (c : Int) := by
    rcases hxb with e | e
    ·exact ⟨0, by decide, e⟩
    ·exact ⟨1, by decide, e⟩
   have hTKn := Bn.bnL_next (R.take k) x hc2 hcb;rw [<- htk] at hTKn;obtain ⟨tN, htt⟩ : ∃ tN : Nat, x.t = (tN : Int) := ⟨x.t.toNat, hsl.t⟩;have htN : tN < 4 := by omega
   obtain ⟨xt, xk, xb, xbl, xbh, xel, xeh⟩ := x;dsimp only at hcb htt hxt0 hxt4 gP0;obtain ⟨cn, hcn⟩ : ∃ cn, cn = (ofBn c (R.take k)).length := ⟨_, rfl⟩;obtain ⟨fc, hfc⟩ : ∃ fc, fc = fs2 n0 n1 c := ⟨_, rfl⟩;obtain ⟨cI, hcI⟩ : ∃ cI : Int, cI = (cn : Int) := ⟨_, rfl⟩;obtain ⟨fI, hfI⟩ : ∃ fI : Int, fI = (fc : Int) := ⟨_, rfl⟩;have hcn6 : cn <= 6 := by rw [hcn]; exact Nat.le_trans (List.length_filter_le _ _) (by rw [List.length_take]; omega)
   have hfr3 : fc <= 3 := by rw [hfc]; unfold fs2; split <;> omega
   have frB_le2 : ∀ n b, frB (fs2 n0 n1) (R.take k) n b <= 6 := fun n b => Nat.le_trans (Bn.frB_le _ _ n b) (by rw [List.length_take]; omega);have xI : IsI xb c := ⟨hcb⟩;have tI : IsI xt tN := ⟨htt⟩;have gT := Z18 hA xI (show TK[c]? = some (I cI) by rw [w3, Bn.bnL_get _ hc2, hcI, hcn]);have hFRl : FR.length = 2 := by rw [hFR]; rfl
   have gF := Z18 hA xI (show FR[c]? = some (I fI) by
    rw [hFR, hfI, hfc]
    match c, hc2 with
    | 0, _ => rfl
    | 1, _ => rfl
    | c + 2, h => exact absurd h (by omega))
   have iT : A.inb xb 2 := Z4o hA xI hc2;have iF := Z1b hA hFRl xI hc2;have gP := Z18 hA w2 gP0;have iP := Z1b hA hPl w2 hkp;have gR := Z18 hA w2 (show RL[k]? = some (.agg [I xt, I xk, I xb, I xbl, I xbh, I xel, I xeh]) from gR0);have iR := Z1b hA hRLl w2 hkp;have d1 : A.cmp .lss xb 0 = false := by subst hA; simp [ar, Z25]; omega
   have d2 : A.cmp .gtr xb 1 = false := by subst hA; simp [ar, Z25]; omega
   have d3 : A.cmp .neq xt xt = false := by subst hA; simp [ar, Z25]
   have dlt : A.cmp .lss i (A.oi (A.len RL)) = true := by rw [yoiL hA hRLl, w2.eq]; subst hA; simp [ar, Z25]; omega
   have fm : A.fits .i64 (A.mul 2 xb) := Z14 hA (xmul hA 2 xb) (by omega);have hfb : A.fits .i64 (A.add (A.mul 2 xb) 1) := Z14 hA (by rw [Z58 hA, xmul hA]) (by omega);have ftk : A.fits .i64 (A.add cI 1) := Z14 hA (Z58 hA cI 1) (by omega);have hfi := Zy hA w2 (by omega);have hw2 := Zz hA w2;have hms : p.length - (k + 1) < p.length - k := by omega
   have hTK2 : A.set TK (A.tn xb) (I (A.add cI 1)) = Bn.bnL (R.take (k + 1)) := by rw [Z7n hA xI rfl, Z58 hA, w3, hcI, hcn]; exact hTKn
   obtain ⟨hsO, hhsO⟩ : ∃ hsO : Nat -> Nat -> Int, hsO = fun n b => ((frB (fs2 n0 n1) (R.take k) n b : Nat) : Int) := ⟨_, rfl⟩;rw [<- hhsO] at w4;obtain ⟨xs, x1, x2', x3', x4'⟩ := w4.p (by decide);obtain ⟨row, hrow⟩ : ∃ row, row = rowF hsO 4 tN := ⟨_, rfl⟩;have hrl : 4 = row.length := by rw [hrow, Z10o]
   obtain ⟨es, hes⟩ : ∃ es, es = (Z3f xs (Z10m hsO 4 4) 0).set tN (.o 3 1 4) := ⟨_, rfl⟩;obtain ⟨gn, hgn⟩ : ∃ gn, gn = (Z3t xs (Z10m hsO 4 4) 0).set tN (xs.getD tN Z5t, none) := ⟨_, rfl⟩;have het : es[tN]? = some (.o 3 1 4) := by rw [hes, List.getElem?_set_self (by rw [Z4p, x1]; exact htN)]
   have iE : A.inb xt 4 := Z4o hA tI htN;have gE := Z18 hA tI het
   by_cases hcf : fc <= cn
   ·have dge : A.cmp .geq cI fI = true := by rw [hcI, hfI]; subst hA; simp [ar, Z25]; omega
    have bIs : IsI (A.add (A.mul 2 xb) 1) (2 * c + 1) := ⟨by rw [Z58 hA, xmul hA, hcb]; omega⟩;have hbN : 2 * c + 1 < 4 := by omega
    have hqi : ∀ b : Nat, b = 2 * c + 1 ↔ (((c : Nat) : Int) = ((b / 2 : Nat) : Int) /\ (b % 2 = 0 ↔ (ofBn (b / 2) (R.take k)).length < fs2 n0 n1 (b / 2))) := fun b => by
     constructor
     ·intro e;have hb2 : b / 2 = c := by omega
      refine ⟨by omega, ?_⟩;rw [hb2, <- hcn, <- hfc];omega
     ·rintro ⟨e1, e2⟩;have hb2 : b / 2 = c := by omega
      rw [hb2, <- hcn, <- hfc] at e2;omega
    obtain ⟨v, hv⟩ : ∃ v, v = hsO tN (2 * c + 1) := ⟨_, rfl⟩;have hv0 : 0 <= v /\ v <= 6 := by rw [hv, hhsO]; have := frB_le2 tN (2 * c + 1); dsimp only; omega
    have gV := Z18 hA bIs (show row[2 * c + 1]? = some (I v) by rw [hrow, hv]; exact Z10u hbN);have fv : A.fits .i64 (A.add v 1) := Z14 hA (Z58 hA v 1) (by omega);have iV : A.inb (A.add (A.mul 2 xb) 1) 4 := Z4o hA bIs hbN;obtain ⟨hs2, hhs2⟩ : ∃ hs2 : Nat -> Nat -> Int, hs2 = fun n' b' => if n' = tN /\ b' = 2 * c + 1 then v + 1 else hsO n' b' := ⟨_, rfl⟩
    obtain ⟨row2, hrow2⟩ : ∃ row2, row2 = A.set row (A.tn (A.add (A.mul 2 xb) 1)) (I (A.add v 1)) := ⟨_, rfl⟩;have hrow2' := hrow2.symm;have hrow3 : row2 = (rowF hsO 4 tN).set (2 * c + 1) (I (v + 1)) := by rw [hrow2, Z7n hA bIs rfl, Z58 hA, hrow]
    have hr2l : row2.length = 4 := by rw [hrow3, List.length_set, Z10o]
    have hr0 : 0 < row2.length := by rw [hr2l]; decide
    have hfrl : FrL row2 := by rw [hrow3, Z11a hbN]; exact Z11m _ _ _
    have hst : ∀ j, (Z10m hs2 4 4).getD j [] = if j = tN then row2 else (Z10m hsO 4 4).getD j [] := fun j => by rw [hhs2, hrow3]; exact Z11s htN hbN (v + 1) j
    have hes2 : es = (Z3f xs (Z10m hsO 4 4) 0).set tN (.o 3 1 row2.length) := by rw [hr2l]; exact hes
    have hHas : ∀ xs' : List Value, GridOk xs' (Z10m hs2 4 4) -> xs'.length = xs.length -> HasI (fun n b => ((frB (fs2 n0 n1) (R.take (k + 1)) n b : Nat) : Int)) 4 4 (Z3f xs' (Z10m hs2 4 4) 0) (Z3t xs' (Z10m hs2 4 4) 0) := fun xs' h1 h2 => by
     have e : hs2 = fun n b => ((frB (fs2 n0 n1) (R.take (k + 1)) n b : Nat) : Int) := by
      funext n b
      have hs := Bn.frB_snoc (fs2 n0 n1) (R.take k) ⟨xt, xk, xb, xbl, xbh, xel, xeh⟩ n b;rw [<- htk] at hs;have hi := hqi b;rw [hhs2, hs];dsimp only
      by_cases c1 : n = tN /\ b = 2 * c + 1
      ·rw [if_pos c1, if_pos ⟨by rw [htt, c1.1], by rw [hcb]; exact (hi.1 c1.2).1, (hi.1 c1.2).2⟩, hv, hhsO, c1.1, c1.2]; rfl
      ·rw [if_neg c1, if_neg (fun g => c1 ⟨by have := g.1; omega, hi.2 ⟨by rw [<- hcb]; exact g.2.1, g.2.2⟩⟩), hhsO]; rfl
     rw [<- e];exact ⟨fun _ => ⟨xs', h2.trans x1, h1, rfl, rfl⟩, fun h => absurd h (by decide)⟩
    rw [x3', x4'];refine Ziq (Zh3 x2' (by rw [x1]; exact htN) (Nat.zero_le _) (hrow.trans (Z10n htN).symm) ?_);rw [<- hrl, <- hes, <- hgn];refine Z7 ?_;clear gR0 gP0;refine Z2w Z0 hA hS [] ?_;cbv;refine bmT dlt ?_;cbv;refine Z16 Z0 hA hS [0, 1, 2, 3, 4, 5, 6, 7, 8, 9, 10, 11, 12, 13, 14, 15, 16, 17, 18, 19, 20, 21, 22, 23, 24, 25] rfl rfl fun Dk1 hD1 => ?_;cbv;refine ⟨iR, ⟨_, gR, ?_⟩⟩;cbv;refine bmF d1 ?_;cbv;refine ⟨iR, ⟨_, gR, ?_⟩⟩;cbv;refine bmF d2 ?_;cbv;refine ⟨iR, ⟨_, gR, ?_⟩⟩;cbv;refine ⟨iP, ⟨_, gP, ?_⟩⟩;cbv;refine bmF d3 ?_;cbv;refine ⟨iR, ⟨_, gR, ?_⟩⟩;cbv;refine ⟨fm, ?_⟩;refine Z16 Z0 hA hS [0, 1, 2, 3, 4, 5, 6, 7, 8, 9, 10, 11, 12, 13, 14, 15, 16] rfl rfl fun Dk2 hD2 => ?_;cbv;refine ⟨iR, ⟨_, gR, ?_⟩⟩;cbv;refine ⟨iT, ⟨_, gT, ?_⟩⟩;cbv;refine ⟨iR, ⟨_, gR, ?_⟩⟩;cbv;refine ⟨iF, ⟨_, gF, ?_⟩⟩;cbv;refine bmT dge ?_;cbv;refine ⟨hfb, iR, ⟨_, gR, ?_⟩⟩;cbv;refine ⟨iT, ⟨_, gT, ?_⟩⟩;cbv;refine ⟨ftk, iT, ⟨⟨_, gT, ?_⟩⟩⟩;cbv;refine ⟨iP, ⟨_, gP, ?_⟩⟩;cbv;refine ⟨iE, ⟨_, gE, ?_⟩⟩;cbv;refine ⟨iV, ⟨_, gV, ?_⟩⟩;cbv;refine ⟨fv, iV, ⟨⟨_, gV, ?_⟩⟩⟩;cbv;refine ⟨hfi, ?_⟩;refine Z39 3 rfl hrow2' ?_;refine Z11r (sl := 17) (n0 := 4) x2' (by rw [x1]; exact htN) rfl hr0 hfrl hst hes2 hgn fun xs' hok' hl' => ?_;obtain ⟨GE', hGE'⟩ : ∃ GE', GE' = Z3f xs' (Z10m hs2 4 4) 0 := ⟨_, rfl⟩;obtain ⟨GN', hGN'⟩ : ∃ GN', GN' = Z3t xs' (Z10m hs2 4 4) 0 := ⟨_, rfl⟩;have hHas' := hHas xs' hok' hl';rw [<- hGE', <- hGN'] at hHas' ⊢;refine Z8 (A.add i 1, k + 1, A.set TK (A.tn xb) (I (A.add cI 1)), GE', GN') [0, 1, 2] ⟨hkp, hw2, hTK2, hHas'⟩ hms ?_;exact ⟨by decide, Z9, ⟨rfl, by rw [hGE']; rfl, by rw [hGN']; rfl, trivial⟩, ⟨rfl, rfl, rfl, rfl, rfl, rfl, rfl, rfl, trivial⟩, rfl, rfl⟩
   ·have dge : A.cmp .geq cI fI = false := by rw [hcI, hfI]; subst hA; simp [ar, Z25]; omega
    have bIs : IsI (A.mul 2 xb) (2 * c + 0) := ⟨by rw [xmul hA, hcb]; omega⟩;have hbN : 2 * c + 0 < 4 := by omega
    have hqi : ∀ b : Nat, b = 2 * c + 0 ↔ (((c : Nat) : Int) = ((b / 2 : Nat) : Int) /\ (b % 2 = 0 ↔ (ofBn (b / 2) (R.take k)).length < fs2 n0 n1 (b / 2))) := fun b => by
     constructor
     ·intro e;have hb2 : b / 2 = c := by omega
      refine ⟨by omega, ?_⟩;rw [hb2, <- hcn, <- hfc];omega
     ·rintro ⟨e1, e2⟩;have hb2 : b / 2 = c := by omega
      rw [hb2, <- hcn, <- hfc] at e2;omega
    obtain ⟨v, hv⟩ : ∃ v, v = hsO tN (2 * c + 0) := ⟨_, rfl⟩;have hv0 : 0 <= v /\ v <= 6 := by rw [hv, hhsO]; have := frB_le2 tN (2 * c + 0); dsimp only; omega
    have gV := Z18 hA bIs (show row[2 * c + 0]? = some (I v) by rw [hrow, hv]; exact Z10u hbN);have fv : A.fits .i64 (A.add v 1) := Z14 hA (Z58 hA v 1) (by omega);have iV : A.inb (A.mul 2 xb) 4 := Z4o hA bIs hbN;obtain ⟨hs2, hhs2⟩ : ∃ hs2 : Nat -> Nat -> Int, hs2 = fun n' b' => if n' = tN /\ b' = 2 * c + 0 then v + 1 else hsO n' b' := ⟨_, rfl⟩
    obtain ⟨row2, hrow2⟩ : ∃ row2, row2 = A.set row (A.tn (A.mul 2 xb)) (I (A.add v 1)) := ⟨_, rfl⟩;have hrow2' := hrow2.symm;have hrow3 : row2 = (rowF hsO 4 tN).set (2 * c + 0) (I (v + 1)) := by rw [hrow2, Z7n hA bIs rfl, Z58 hA, hrow]
    have hr2l : row2.length = 4 := by rw [hrow3, List.length_set, Z10o]
    have hr0 : 0 < row2.length := by rw [hr2l]; decide
    have hfrl : FrL row2 := by rw [hrow3, Z11a hbN]; exact Z11m _ _ _
    have hst : ∀ j, (Z10m hs2 4 4).getD j [] = if j = tN then row2 else (Z10m hsO 4 4).getD j [] := fun j => by rw [hhs2, hrow3]; exact Z11s htN hbN (v + 1) j
    have hes2 : es = (Z3f xs (Z10m hsO 4 4) 0).set tN (.o 3 1 row2.length) := by rw [hr2l]; exact hes
    have hHas : ∀ xs' : List Value, GridOk xs' (Z10m hs2 4 4) -> xs'.length = xs.length -> HasI (fun n b => ((frB (fs2 n0 n1) (R.take (k + 1)) n b : Nat) : Int)) 4 4 (Z3f xs' (Z10m hs2 4 4) 0) (Z3t xs' (Z10m hs2 4 4) 0) := fun xs' h1 h2 => by
     have e : hs2 = fun n b => ((frB (fs2 n0 n1) (R.take (k + 1)) n b : Nat) : Int) := by
      funext n b
      have hs := Bn.frB_snoc (fs2 n0 n1) (R.take k) ⟨xt, xk, xb, xbl, xbh, xel, xeh⟩ n b;rw [<- htk] at hs;have hi := hqi b;rw [hhs2, hs];dsimp only
      by_cases c1 : n = tN /\ b = 2 * c + 0
      ·rw [if_pos c1, if_pos ⟨by rw [htt, c1.1], by rw [hcb]; exact (hi.1 c1.2).1, (hi.1 c1.2).2⟩, hv, hhsO, c1.1, c1.2]; rfl
      ·rw [if_neg c1, if_neg (fun g => c1 ⟨by have := g.1; omega, hi.2 ⟨by rw [<- hcb]; exact g.2.1, g.2.2⟩⟩), hhsO]; rfl
     rw [<- e];exact ⟨fun _ => ⟨xs', h2.trans x1, h1, rfl, rfl⟩, fun h => absurd h (by decide)⟩
    rw [x3', x4'];refine Ziq (Zh3 x2' (by rw [x1]; exact htN) (Nat.zero_le _) (hrow.trans (Z10n htN).symm) ?_);rw [<- hrl, <- hes, <- hgn];refine Z7 ?_;clear gR0 gP0;refine Z2w Z0 hA hS [] ?_;cbv;refine bmT dlt ?_;cbv;refine Z16 Z0 hA hS [0, 1, 2, 3, 4, 5, 6, 7, 8, 9, 10, 11, 12, 13, 14, 15, 16, 17, 18, 19, 20, 21, 22, 23, 24, 25] rfl rfl fun Dk1 hD1 => ?_;cbv;refine ⟨iR, ⟨_, gR, ?_⟩⟩;cbv;refine bmF d1 ?_;cbv;refine ⟨iR, ⟨_, gR, ?_⟩⟩;cbv;refine bmF d2 ?_;cbv;refine ⟨iR, ⟨_, gR, ?_⟩⟩;cbv;refine ⟨iP, ⟨_, gP, ?_⟩⟩;cbv;refine bmF d3 ?_;cbv;refine ⟨iR, ⟨_, gR, ?_⟩⟩;cbv;refine ⟨fm, ?_⟩;refine Z16 Z0 hA hS [0, 1, 2, 3, 4, 5, 6, 7, 8, 9, 10, 11, 12, 13, 14, 15, 16] rfl rfl fun Dk2 hD2 => ?_;cbv;refine ⟨iR, ⟨_, gR, ?_⟩⟩;cbv;refine ⟨iT, ⟨_, gT, ?_⟩⟩;cbv;refine ⟨iR, ⟨_, gR, ?_⟩⟩;cbv;refine ⟨iF, ⟨_, gF, ?_⟩⟩;cbv;refine bmF dge ?_;cbv;refine ⟨iR, ⟨_, gR, ?_⟩⟩;cbv;refine ⟨iT, ⟨_, gT, ?_⟩⟩;cbv;refine ⟨ftk, iT, ⟨⟨_, gT, ?_⟩⟩⟩;cbv;refine ⟨iP, ⟨_, gP, ?_⟩⟩;cbv;refine ⟨iE, ⟨_, gE, ?_⟩⟩;cbv;refine ⟨iV, ⟨_, gV, ?_⟩⟩;cbv;refine ⟨fv, iV, ⟨⟨_, gV, ?_⟩⟩⟩;cbv;refine ⟨hfi, ?_⟩;refine Z39 3 rfl hrow2' ?_;refine Z11r (sl := 17) (n0 := 4) x2' (by rw [x1]; exact htN) rfl hr0 hfrl hst hes2 hgn fun xs' hok' hl' => ?_;obtain ⟨GE', hGE'⟩ : ∃ GE', GE' = Z3f xs' (Z10m hs2 4 4) 0 := ⟨_, rfl⟩;obtain ⟨GN', hGN'⟩ : ∃ GN', GN' = Z3t xs' (Z10m hs2 4 4) 0 := ⟨_, rfl⟩;have hHas' := hHas xs' hok' hl';rw [<- hGE', <- hGN'] at hHas' ⊢;refine Z8 (A.add i 1, k + 1, A.set TK (A.tn xb) (I (A.add cI 1)), GE', GN') [0, 1, 2] ⟨hkp, hw2, hTK2, hHas'⟩ hms ?_;exact ⟨by decide, Z9, ⟨rfl, by rw [hGE']; rfl, by rw [hGN']; rfl, trivial⟩, ⟨rfl, rfl, rfl, rfl, rfl, rfl, rfl, rfl, trivial⟩, rfl, rfl⟩
  ·have hke : k = p.length := by omega
   have dlt : A.cmp .lss i (A.oi (A.len RL)) = false := by rw [yoiL hA hRLl, w2.eq]; subst hA; simp [ar, Z25]; omega
   obtain ⟨hsE, hhsE⟩ : ∃ hsE : Nat -> Nat -> Int, hsE = fun n b => ((frB (fs2 n0 n1) R n b : Nat) : Int) := ⟨_, rfl⟩;have w5 : HasI hsE 4 4 GE GN := by rw [hhsE]; rw [hke, List.take_of_length_le (by omega)] at w4; exact w4
   have hd : DetS (jX n0 n1 T) (jX n0 n1 T).moves.length (Z1aq n0 n1 T) hsE := hdet.cg rfl fun n b => by rw [hhsE, hfr]
   have hE0 : ∀ n b, 0 <= hsE n b /\ hsE n b <= 6 := fun n b => by rw [hhsE]; have := Bn.frB_le (fs2 n0 n1) R n b; dsimp only; omega
   have hHL2 : ∀ n, n < 4 -> HL[n]? = some (.sl 1 ((List.range 4).map fun b => I (if 0 < hsE n b then 1 else 2))) := fun n hn => by
    rw [hHL, hd.holdsJ, Z1aw];show (((List.range 4).map fun n => (List.range 4).map fun b => Z2i (hsE n b, hsE n b)).map fun l => D.sl 1 (l.map I))[n]? = _;rw [List.getElem?_map, List.getElem?_map, List.getElem?_range hn];show some (D.sl 1 (((List.range 4).map fun b => Z2i (hsE n b, hsE n b)).map I)) = _;rw [List.map_map];refine congrArg (fun l => some (D.sl 1 l)) (List.map_congr_left fun b _ => ?_);have := hE0 n b;show I (Z2i (hsE n b, hsE n b)) = _;unfold Z2i
    by_cases h : 0 < hsE n b
    ·rw [if_pos h, if_pos h]
    ·rw [if_neg h, if_neg h, if_pos (show hsE n b = 0 by omega)]
   have hRec : ∀ b, b < 4 -> recallJ (jX n0 n1 T) [b] = ((List.range 4).filter fun n => decide (0 < hsE n b)).map fun n : Nat => (n : Int) := fun b hb => hd.recallJ hin.ok hb;have hNote : ∀ n b : Nat, Z4d (jX n0 n1 T) (Z2v n b) = (hsE n b, hsE n b) := fun n b => hd.note n b;clear cWk cRn cPl hdet hfr w4 hhsE hd hbx hslot hbnd hin hjo hHL hFR hMR;refine Z2w Z0 hA hS [] ?_;cbv;refine bmF dlt ?_;cbv;refine Z60 (a := { env := [(10, .cb (.agg [I 4, .sl 1 FB, .sl 5 MX]) 0), (14, .sl 1 HL), (17, .o 1 1 4)], H := [.els 1 TK, .els 1 GE, .ob (.gr 1 GN)], nt := 278, dfs := [] }) [0, 1, 2] ⟨by decide, Z9, ⟨rfl, rfl, rfl, trivial⟩, ⟨rfl, rfl, rfl, trivial⟩, rfl, rfl⟩ ?_;refine Z1bd w5 (by decide) (fun es bg => ⟨by decide, Z9, ⟨rfl, rfl, rfl, trivial⟩, ⟨rfl, rfl, rfl, trivial⟩, rfl, rfl⟩) fun OL GN' hOl hOL => ?_;have eO : A.eqN 4 (A.len OL) := Ze hA hOl;refine Z1a hA [1] ?_;cbv;refine ⟨eO, ?_⟩;refine Z60 (a := { env := [(10, .cb (.agg [I 4, .sl 1 FB, .sl 5 MX]) 0), (14, .sl 1 HL), (17, .sl 1 OL)], H := [], nt := 278, dfs := [] }) [] ⟨by decide, Z9, trivial, ⟨rfl, rfl, rfl, trivial⟩, rfl, rfl⟩ ?_;refine Z7 ?_;cbv;have b0 : A.cmp .neq 0 0 = false := n00;refine Zb hS ?_;refine Za (α := Int × Nat) (fun q => { env := [(10, .cb (.agg [I 4, .sl 1 FB, .sl 5 MX]) 0), (14, .sl 1 HL), (17, .sl 1 OL), (20, I q.1)], H := [], nt := 278, dfs := [] })
    (fun q => 4 - q.2) (fun q => q.2 <= 4 /\ IsI q.1 q.2) (0, 0) ⟨Nat.zero_le _, ⟨rfl⟩⟩ ?_ ?_
   ·exact Zf [] ⟨by decide, Z9, trivial, ⟨rfl, rfl, rfl, rfl, trivial⟩, rfl, rfl⟩
   clear w2 dlt;rintro ⟨i, k⟩ ⟨u1, u2⟩;dsimp only at u1 u2
   by_cases hk4 : k < 4
   ·have dk : A.cmp .lss i 4 = true := by rw [u2.eq]; subst hA; simp [ar, Z25]; omega
    have hXL : [I i] = Z1y [k] := by rw [u2.eq]; rfl
    have hAsc : Asc 4 [k] := ⟨fun x hx => by rw [List.mem_singleton.1 hx]; exact hk4, List.pairwise_singleton _ _⟩;have e1L : A.eqN 1 (A.len [I i]) := Ze hA rfl;obtain ⟨P, hP⟩ : ∃ P : Nat -> Bool, P = fun n => decide (0 < hsE n k) := ⟨_, rfl⟩;have hRk := hRec k hk4;rw [<- hP] at hRk;have hPt : ∀ n, 0 < hsE n k -> P n = true := fun n h => by rw [hP]; exact decide_eq_true h
    have hPf : ∀ n, ¬ 0 < hsE n k -> ¬ P n = true := fun n h => by rw [hP]; exact fun g => h (of_decide_eq_true g)
    have fi1 := Zy hA u2 (by omega);have hu2 := Zz hA u2;have hms4 : 4 - (k + 1) < 4 - k := by omega
    refine Z2w Z0 hA hS [] ?_;cbv;refine bmT dk ?_;cbv;refine Z26 hS (Z1a hA [0] ?_);cbv;refine ⟨e1L, Z7 ?_⟩;refine Z4 hS [.agg [I 4, .sl 1 FB, .sl 5 MX], .sl 1 [I i]] [] [] rfl rfl rfl rfl rfl rfl rfl rfl (by decide) trivial (md.recall hNB hAsc hXL _ fun RC hRC => ?_);rw [hRk] at hRC;have hRC2 : RC = ((List.range 4).filter P).map fun n : Nat => I (n : Int) := by rw [hRC, List.map_map]; rfl
    have hRCl : RC.length = ((List.range 4).filter P).length := by rw [hRC2, List.length_map]
    refine Z3 Z0 hA hS ?_;cbv;refine Zb hS ?_;refine Za (α := Int × Nat × Int) (fun q => { env := [(10, .cb (.agg [I 4, .sl 1 FB, .sl 5 MX]) 0), (14, .sl 1 HL), (17, .sl 1 OL), (20, I i), (21, .sl 1 RC), (22, I 0), (23, I q.2.2), (24, I q.1)], H := [], nt := 278, dfs := [] })
     (fun q => 4 - q.2.1) (fun q => q.2.1 <= 4 /\ IsI q.1 q.2.1 /\ IsI q.2.2 ((List.range q.2.1).filter P).length) (0, 0, 0) ⟨Nat.zero_le _, ⟨rfl⟩, ⟨rfl⟩⟩ ?_ ?_
    ·exact Zf [] ⟨by decide, Z9, trivial, ⟨rfl, rfl, rfl, rfl, rfl, rfl, rfl, rfl, trivial⟩, rfl, rfl⟩
    rintro ⟨nI, n, atI⟩ ⟨z1, z2, z3⟩;dsimp only at z1 z2 z3;have hfl : ((List.range n).filter P).length <= 4 := Nat.le_trans (List.length_filter_le _ _) (by rw [List.length_range]; exact z1)
    by_cases hn4 : n < 4
    ·have dn : A.cmp .lss nI 4 = true := by rw [z2.eq]; subst hA; simp [ar, Z25]; omega
     obtain ⟨v, hv'⟩ : ∃ v, v = hsE n k := ⟨_, rfl⟩;have hv0 : 0 <= v := by rw [hv']; exact (hE0 n k).1
     obtain ⟨row, hrow⟩ : ∃ row, row = rowF hsE 4 n := ⟨_, rfl⟩;have hrl : row.length = 4 := by rw [hrow, Z10o]
     have gO := Z18 hA z2 (show OL[n]? = some (.sl 1 row) by rw [hrow]; exact hOL n hn4);have iO := Z1b hA hOl z2 hn4;have gV := Z18 hA u2 (show row[k]? = some (I v) by rw [hrow, hv']; exact Z10u hk4);have iV := Z1b hA hrl u2 hk4;obtain ⟨HR, hHR⟩ : ∃ HR, HR = (List.range 4).map fun b => I (if 0 < hsE n b then 1 else 2) := ⟨_, rfl⟩;have hHRl : HR.length = 4 := by rw [hHR, List.length_map, List.length_range]
     have gH := Z18 hA z2 (show HL[n]? = some (.sl 1 HR) by rw [hHR]; exact hHL2 n hn4);have iH := Z1b hA hHLl z2 hn4;have iHb := Z1b hA hHRl u2 hk4;have e4 : A.cmp .neq (A.oi (A.len HR)) 4 = false := by rw [yoiL hA hHRl]; subst hA; rfl
     have hvv : A.bnot (A.leq [v, v] [v, v]) = false := by subst hA; simp [ar]
     have fn1 := Zy hA z2 (by omega);have hz2 := Zz hA z2;have hms6 : 4 - (n + 1) < 4 - n := by omega
     by_cases hpos : 0 < v
     ·have hPn := hPt n (by rw [<- hv']; exact hpos);have hgt : A.cmp .gtr v 0 = true := by  subst hA; simp [ar, Z25]; omega
      have hRg := filter_at P hn4 hPn;have gRC := Z18 hA z3 (show RC[((List.range n).filter P).length]? = some (I nI) by rw [hRC2, List.getElem?_map, hRg, z2.eq]; rfl);have hRlt : ((List.range n).filter P).length < ((List.range 4).filter P).length := (List.getElem?_eq_some_iff.1 hRg).1;have iRC := Z1b hA hRCl z3 hRlt;have e1 : A.cmp .geq atI (A.oi (A.len RC)) = false := by rw [yoiL hA hRCl, z3.eq]; subst hA; simp [ar, Z25]; omega
      have e2 : A.cmp .neq nI nI = false := by subst hA; simp [ar, Z25]
      have fat := Zy hA z3 (by omega);have hat : IsI (A.add atI 1) ((List.range (n + 1)).filter P).length := ⟨by rw [Z1at, if_pos hPn, Z58 hA, z3.eq]; rfl⟩;have gHb := Z18 hA u2 (show HR[k]? = some (I 1) by rw [hHR, List.getElem?_map, List.getElem?_range hk4]; show some (I (if 0 < hsE n k then 1 else 2)) = _; rw [if_pos (by rw [<- hv']; exact hpos)]);have e3 : A.cmp .neq 1 1 = false := by subst hA; rfl
      refine Z2w Z0 hA hS [] ?_;cbv;refine bmT dn ?_;cbv;refine Z4 hS [.agg [I 4, .sl 1 FB, .sl 5 MX], I nI, I i] [] [] rfl rfl rfl rfl rfl rfl rfl rfl (by decide) trivial (md.amount hNB z2 u2 hn4 hk4 _ fun lo hi hlo hhi _ => ?_);have hlo : lo = v := by rw [hlo, hNote, hv']
      have hhi : hi = v := by rw [hhi, hNote, hv']
      rw [hlo, hhi];refine Z3 Z0 hA hS ?_;cbv;refine ⟨iO, ⟨_, gO, ?_⟩⟩;cbv;refine ⟨iV, ⟨_, gV, ?_⟩⟩;cbv;refine bmT hgt ?_;cbv;refine bmF e1 ?_;cbv;refine ⟨iRC, ⟨_, gRC, ?_⟩⟩;cbv;refine bmF e2 ?_;cbv;refine ⟨fat, ?_⟩;refine Z16 Z0 hA hS [0, 1, 2, 3, 4, 5, 6, 7, 8, 9, 10, 11, 12, 13, 14, 15, 16, 17, 18, 19, 20, 21, 22, 23, 24, 25, 26, 27, 28, 29, 30, 31, 32, 33, 34, 35, 36, 37, 38, 39] rfl rfl fun Dk4 hD4 => ?_;cbv;refine bmF n00 ?_;cbv;refine ⟨iH, ⟨_, gH, ?_⟩⟩;cbv;refine bmF e4 ?_;cbv;refine ⟨iH, ⟨_, gH, ?_⟩⟩;cbv;refine ⟨iHb, ⟨_, gHb, ?_⟩⟩;cbv;refine bmF e3 ?_;cbv;refine ⟨iO, ⟨_, gO, ?_⟩⟩;cbv;refine ⟨iV, ⟨_, gV, ?_⟩⟩;cbv;refine ⟨iO, ⟨_, gO, ?_⟩⟩;cbv;refine ⟨iV, ⟨_, gV, ?_⟩⟩;cbv;refine FlatEq.mk ⟨[v, v], [v, v], rfl, rfl, rfl, rfl, ?_⟩;cbv;refine bmF hvv ?_;cbv;refine ⟨fn1, ?_⟩;refine Z8 (A.add nI 1, n + 1, A.add atI 1) [] ⟨hn4, hz2, hat⟩ hms6 ?_;exact ⟨by decide, Z9, trivial, ⟨rfl, rfl, rfl, rfl, rfl, rfl, rfl, rfl, trivial⟩, rfl, rfl⟩
     ·have hPn := hPf n (by rw [<- hv']; exact hpos);have hgt : A.cmp .gtr v 0 = false := by  subst hA; simp [ar, Z25]; omega
      have hat : IsI atI ((List.range (n + 1)).filter P).length := ⟨by rw [Z1at, if_neg hPn, z3.eq]; rfl⟩;have gHb := Z18 hA u2 (show HR[k]? = some (I 2) by rw [hHR, List.getElem?_map, List.getElem?_range hk4]; show some (I (if 0 < hsE n k then 1 else 2)) = _; rw [if_neg (fun h => hpos (by rw [hv']; exact h))]);have e3 : A.cmp .neq 2 2 = false := by subst hA; rfl
      refine Z2w Z0 hA hS [] ?_;cbv;refine bmT dn ?_;cbv;refine Z4 hS [.agg [I 4, .sl 1 FB, .sl 5 MX], I nI, I i] [] [] rfl rfl rfl rfl rfl rfl rfl rfl (by decide) trivial (md.amount hNB z2 u2 hn4 hk4 _ fun lo hi hlo hhi _ => ?_);have hlo : lo = v := by rw [hlo, hNote, hv']
      have hhi : hi = v := by rw [hhi, hNote, hv']
      rw [hlo, hhi];refine Z3 Z0 hA hS ?_;cbv;refine ⟨iO, ⟨_, gO, ?_⟩⟩;cbv;refine ⟨iV, ⟨_, gV, ?_⟩⟩;cbv;refine bmF hgt ?_;cbv;refine Z16 Z0 hA hS [0, 1, 2, 3, 4, 5, 6, 7, 8, 9, 10, 11, 12, 13, 14, 15, 16, 17, 18, 19, 20, 21, 22, 23, 24, 25, 26, 27, 28, 29, 30, 31, 32, 33, 34, 35, 36, 37, 38, 39] rfl rfl fun Dk4 hD4 => ?_;cbv;refine bmF n00 ?_;cbv;refine ⟨iH, ⟨_, gH, ?_⟩⟩;cbv;refine bmF e4 ?_;cbv;refine ⟨iH, ⟨_, gH, ?_⟩⟩;cbv;refine ⟨iHb, ⟨_, gHb, ?_⟩⟩;cbv;refine bmF e3 ?_;cbv;refine ⟨iO, ⟨_, gO, ?_⟩⟩;cbv;refine ⟨iV, ⟨_, gV, ?_⟩⟩;cbv;refine ⟨iO, ⟨_, gO, ?_⟩⟩;cbv;refine ⟨iV, ⟨_, gV, ?_⟩⟩;cbv;refine FlatEq.mk ⟨[v, v], [v, v], rfl, rfl, rfl, rfl, ?_⟩;cbv;refine bmF hvv ?_;cbv;refine ⟨fn1, ?_⟩;refine Z8 (A.add nI 1, n + 1, atI) [] ⟨hn4, hz2, hat⟩ hms6 ?_;exact ⟨by decide, Z9, trivial, ⟨rfl, rfl, rfl, rfl, rfl, rfl, rfl, rfl, trivial⟩, rfl, rfl⟩
    ·have dn : A.cmp .lss nI 4 = false := by rw [z2.eq]; subst hA; simp [ar, Z25]; omega
     have hn : n = 4 := by omega
     have hlr : A.cmp .neq atI (A.oi (A.len RC)) = false := by rw [yoiL hA hRCl, z3.eq, hn]; subst hA; simp [ar, Z25]
     refine Z2w Z0 hA hS [] ?_;cbv;refine bmF dn ?_;cbv;refine Z7 ?_;cbv;refine bmF n00 ?_;cbv;refine bmF hlr ?_;cbv;refine ⟨fi1, ?_⟩;refine Z8 (A.add i 1, k + 1) [] ⟨hk4, hu2⟩ hms4 ?_;exact ⟨by decide, Z9, trivial, ⟨rfl, rfl, rfl, rfl, trivial⟩, rfl, rfl⟩
   ·have dk : A.cmp .lss i 4 = false := by rw [u2.eq]; subst hA; simp [ar, Z25]; omega
    refine Z2w Z0 hA hS [] ?_;cbv;refine bmF dk ?_;cbv;refine Z7 ?_;cbv;refine Z4 hS [] [] [] rfl rfl rfl rfl rfl rfl rfl rfl (by decide) trivial (Z1b9 _ ?_);refine Z3 Z0 hA hS ?_;cbv;exact Z2 [] (by decide) Z9 (H' := []) (d' := .v (.bool true)) trivial rfl (Z1 hq)
end Go.Proofs.YtegjabljeepbdaaGreatDoor

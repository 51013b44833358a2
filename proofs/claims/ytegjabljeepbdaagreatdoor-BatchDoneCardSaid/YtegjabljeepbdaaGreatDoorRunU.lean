/- Part RunU of the proofs about the benches of the accordion maker: see the last text of the claim for what is proved. -/
import Derived.Test.YtegjabljeepbdaaGreatDoorRunR
import Derived.Test.YtegjabljeepbdaaGreatDoorRunT
set_option linter.unusedVariables false
set_option linter.unusedSimpArgs false
set_option linter.unnecessarySimpa false
set_option linter.constructorNameAsVariable false

namespace Go.Proofs.YtegjabljeepbdaaGreatDoor
open Go Go.Abs Go.Proofs Go.Batch
open Bn (Sl Sh Tk Wk Z14v Z14z Z14x runS Z151 ShopOk PlanOk PlanLe Val mo0 OkS ff ownE ownN elT tkZ Cl clWs clW Z15w)
theorem jOk2 (f1 f2 : Bool) : JOk ⟨4, [f1, f2], [mIn 0 5 5, mIn 1 5 5]⟩ where
 i1 := by show (1 : Int) <= 4; decide
 i4 := by show (4 : Int) <= 4; decide
 f1 := by show 1 <= 2; decide
 f2 := by show 2 <= 2; decide
 m10 := by show [mIn 0 5 5, mIn 1 5 5].length <= 10; decide
 b4 := by show (Z6 [mIn 0 5 5, mIn 1 5 5]).length <= 4; decide
 mv := fun m hm => by
  simp only [List.mem_cons, List.not_mem_nil, or_false] at hm;have key : ∀ b : Int, 0 <= b -> b < 2 -> MOk ⟨4, [f1, f2], [mIn 0 5 5, mIn 1 5 5]⟩ (mIn b 5 5) := fun b h0 h1 => ⟨by show (1 : Int) <= 1; decide, by show (1 : Int) <= 3; decide, h0, h1, fun h => absurd h (by show ¬ (1 : Int) = 2; decide), fun h => absurd h (by show ¬ (1 : Int) = 2; decide), fun _ => rfl, by show (0 : Int) <= 5; decide, by show (5 : Int) <= 5; decide, by show (5 : Int) <= 5; decide⟩;rcases hm with rfl | rfl
  ·exact key 0 (by decide) (by decide)
  ·exact key 1 (by decide) (by decide)
set_option maxRecDepth 40000 in
set_option maxHeartbeats 16000000 in
theorem Z17h (L : List D) (nums : List Int) (hL : L = nums.map I) (hl : L.length <= 9223372036854775807) (Q) (hq : Q (RA.ret (.v (.bool true))) []) : CallA Tryz.prog 6 [.sl 1 L] [] Q := by
 obtain ⟨A, hA⟩ : ∃ A, A = ar := ⟨_, rfl⟩;refine Z38 Z0 hA [13] Tryz.func6 rfl rfl rfl rfl rfl fun S hS => ?_;cbv;refine Z4 hS [.sl 1 L] [] [] rfl rfl rfl rfl rfl rfl rfl rfl (by decide) trivial (Zvp L nums hL hl _ fun x0 => ?_);refine Z3 Z0 hA hS ?_;cbv;refine Z4 hS [.b 0 0, I 3, I 6] [0] [pot x0] rfl rfl rfl rfl rfl rfl rfl rfl (by decide) ⟨rfl, trivial⟩ (Bn.shopOfG x0 3 6 (by decide) (by decide) _ fun s xs0 es0 gn0 N x1 hok hxl hN hes0 hgn0 => ?_);obtain ⟨bn, hbn⟩ : ∃ bn, bn = s.benches := ⟨_, rfl⟩;rw [<- hbn];obtain ⟨b2, hb2⟩ : ∃ b2, b2 = A.min bn 2 := ⟨_, rfl⟩;have hb2e : b2 = min s.benches 2 := by rw [hb2, Zir hA, hbn]
 have hN3 : N <= 3 := by rw [hN]; exact hok.len
 refine Z3 Z0 hA hS ?_;cbv;refine Zb hS ?_;refine Za (α := Int × Nat × List Tk × List Value × List D × List Ent) (fun q => { env := [(3, .b 0 0), (4, .b 1 0), (5, I q.1)], H := [pot x1, .box (.agg [I b2, .o 2 3 N]), .els 3 q.2.2.2.2.1, .ob (.gr 3 q.2.2.2.2.2)], nt := 272, dfs := [] })
  (fun q => N - q.2.1) (fun q => q.2.1 <= N /\ IsI q.1 q.2.1 /\ Cl b2 s.tasks q.2.2.1 q.2.1 0 /\ q.2.2.2.1.length = N /\ q.2.2.2.2.1 = ownE q.2.2.1 q.2.2.2.1 ff /\ q.2.2.2.2.2 = ownN q.2.2.1 q.2.2.2.1 ff) (0, 0, s.tasks, xs0, es0, gn0) ⟨Nat.zero_le _, ⟨rfl⟩, Cl.zero b2 s.tasks, hxl.trans hN.symm, hes0, hgn0⟩ ?_ ?_
 ·refine Zog 3 rfl (congrArg (fun z => Blk.box (.agg [I z, .o 1 3 N])) hb2.symm) ?_;exact Zf [0, 3, 1, 2] ⟨by decide, Z9, ⟨rfl, rfl, rfl, rfl, trivial⟩, ⟨rfl, rfl, rfl, trivial⟩, rfl, rfl⟩
 rintro ⟨i, k, TS, xs, es, gn⟩ ⟨u1, u2, u3, u4, u5, u6⟩;dsimp only at u1 u2 u3 u4 u5 u6;have hyes : A.cmp .lss i (A.oi N) = true -> k < N := fun c => by have := xlt hA c; rw [xoi hA] at this; have := u2.eq; omega
 have hno : A.cmp .lss i (A.oi N) = false -> k = N := fun c => by have := Z7x hA c; rw [xoi hA] at this; have := u2.eq; omega
 refine Z2w Z0 hA hS [] ?_;cbv;refine bm (fun c => ?_) (fun c => ?_)
 ·have hk := hyes c;obtain ⟨t, ht⟩ : ∃ t, s.tasks[k]? = some t := ⟨_, List.getElem?_eq_getElem (by omega)⟩;have hoT := hok.tk t (List.mem_of_getElem? ht);have hw3 := hoT.w1;have hw1 := hoT.w0;have hf1 := Zy hA u2 (by omega);have hu2 := Zz hA u2;have hms : N - (k + 1) < N - k := by omega
  cbv;refine Zb hS ?_;refine Za (α := Int × Nat × List Tk × List Value × List D × List Ent) (fun q => { env := [(3, .b 0 0), (4, .b 1 0), (5, I i), (6, I q.1)], H := [pot x1, .box (.agg [I b2, .o 2 3 N]), .els 3 q.2.2.2.2.1, .ob (.gr 3 q.2.2.2.2.2)], nt := 272, dfs := [] })
   (fun q => t.works.length - q.2.1) (fun q => q.2.1 <= t.works.length /\ IsI q.1 q.2.1 /\ Cl b2 s.tasks q.2.2.1 k q.2.1 /\ q.2.2.2.1.length = N /\ q.2.2.2.2.1 = ownE q.2.2.1 q.2.2.2.1 ff /\ q.2.2.2.2.2 = ownN q.2.2.1 q.2.2.2.1 ff) (0, 0, TS, xs, es, gn) ⟨Nat.zero_le _, ⟨rfl⟩, u3, u4, u5, u6⟩ ?_ ?_
  ·exact Zf [0, 1, 2, 3] ⟨by decide, Z9, ⟨rfl, rfl, rfl, rfl, trivial⟩, ⟨rfl, rfl, rfl, rfl, trivial⟩, rfl, rfl⟩
  rintro ⟨m, n, TS1, xs1, es0', gn0'⟩ ⟨v1, v2, v3, v4, v5, v6⟩;dsimp only at v1 v2 v3 v4 v5 v6;obtain ⟨row, hrow⟩ : ∃ row, row = (clWs b2 t.works n).map Z14x := ⟨_, rfl⟩;obtain ⟨M, hM⟩ : ∃ M, M = t.works.length := ⟨_, rfl⟩;have hrl : M = row.length := by rw [hrow, List.length_map, Bn.clWs_len, hM]
  have hTk := v3.get ht;have hrT : row = (TS1.getD k tkZ).works.map Z14x := by rw [hTk]; exact hrow
  have hM0 : 0 < M := by omega
  have iE : A.inb i N := Z4o hA u2 hk;have hym : A.cmp .lss m (A.oi M) = true -> n < M := fun c => by have := xlt hA c; rw [xoi hA] at this; have := v2.eq; omega
  have hnm : A.cmp .lss m (A.oi M) = false -> M <= n := fun c => by have := Z7x hA c; rw [xoi hA] at this; have := v2.eq; omega
  refine Ziq (Bn.own_take 2 3 k 4 (n := M) v5 v6 rfl rfl rfl (by decide) (by rw [v4]; exact hk) rfl hrT hrl fun es1 gn1 h1 h2 => ?_);have he1 : elT TS1 k (.o 4 3 M) = .agg [I t.ready, I t.due, .o 4 3 M] := by unfold elT; rw [hTk]
  have gE := Z18 hA u2 (show es1[k]? = some (.agg [I t.ready, I t.due, .o 4 3 M]) by rw [h1, List.getElem?_set_self (by rw [Bn.ownE_len, v4]; exact hk), he1]);refine Z7 ?_
  by_cases hnM : n < M
  ·obtain ⟨w, hw⟩ : ∃ w, t.works[n]? = some w := ⟨_, List.getElem?_eq_getElem (by omega)⟩;have how := hoT.wk w (List.mem_of_getElem? hw);have hst := v3.step ht hw;obtain ⟨wb, wlo, whi⟩ := w;have hwb0 : 0 <= wb := how.b0;have hwb1 : wb < s.benches := how.b1;have gW := Z18 hA v2 (show row[n]? = some (.agg [I wb, I wlo, I whi]) by rw [hrow, List.getElem?_map, Bn.clWs_get b2 hw]; rfl);have iW : A.inb m M := Z4o hA v2 hnM;have fs : A.fits .i64 (A.sub b2 1) := Z14 hA (Z24 hA b2 1) (by have := hok.b0; have := hok.b1; omega);obtain ⟨row2, hrow2⟩ : ∃ row2, row2 = A.set row (A.tn m) (.agg [I (A.min wb (A.sub b2 1)), I wlo, I whi]) := ⟨_, rfl⟩;obtain ⟨TS2, hTS2⟩ : ∃ TS2, TS2 = TS1.set k ⟨t.ready, t.due, (clWs b2 t.works n).set n (clW b2 ⟨wb, wlo, whi⟩)⟩ := ⟨_, rfl⟩;rw [<- hTS2] at hst;have hTS2k : TS2.getD k tkZ = ⟨t.ready, t.due, (clWs b2 t.works n).set n (clW b2 ⟨wb, wlo, whi⟩)⟩ := by
    rw [hTS2]; exact Bn.tkD_get (List.getElem?_set_self (by rw [v3.len]; omega))
   have hTS2o : ∀ j, j ≠ k -> TS2.getD j tkZ = TS1.getD j tkZ := fun j hj => by
    rw [hTS2, List.getD_eq_getElem?_getD, List.getElem?_set_ne (fun g => hj g.symm), List.getD_eq_getElem?_getD]
   have hr2 : row2 = (TS2.getD k tkZ).works.map Z14x := by
    rw [hTS2k, hrow2, Z7n hA v2 rfl, hrow, List.map_set];show _ = List.set _ n (Z14x (clW b2 ⟨wb, wlo, whi⟩));rw [Zir hA, Z24 hA]; rfl
   have hr2l : M = row2.length := by rw [hrow2, Z7n hA v2 rfl, List.length_set]; exact hrl
   have h1' : es1 = (ownE TS1 xs1 ff).set k (elT TS2 k (.o 4 3 M)) := by
    rw [h1]; unfold elT; rw [hTk, hTS2k]
   have hn1 : n + 1 <= t.works.length := by omega
   have hfm := Zy hA v2 (by omega);have hv2 := Zz hA v2;have hms2 : t.works.length - (n + 1) < t.works.length - n := by omega
   refine Z2w Z0 hA hS [] ?_;cbv;refine ⟨iE, ⟨_, gE, ?_⟩⟩;cbv;refine bm (fun _ => ?_) (fun c => absurd (hnm c) (by omega));cbv;refine Z16 Z0 hA hS [0, 1, 2, 3, 4, 5, 6, 7, 8, 9, 10, 11, 12, 13, 14, 15, 16, 17, 18, 19, 20, 21, 22, 23] rfl rfl fun Dk hD => ?_;cbv;refine ⟨iE, ⟨_, gE, ?_⟩⟩;cbv;refine ⟨iE, ⟨_, gE, ?_⟩⟩;cbv;refine ⟨iW, ⟨_, gW, ?_⟩⟩;cbv;refine ⟨fs, iW, ⟨⟨_, gW, ?_⟩⟩⟩;cbv;refine ⟨hfm, ?_⟩;refine Z39 4 rfl hrow2.symm ?_;refine Bn.own_put (n := M) (fz' := ff) (ts' := TS2) 2 3 k 4 h1' h2 rfl rfl rfl (.inr ⟨4, 1, 0, .agg [I b2, .o 2 3 N], 1, 3, N, rfl, rfl, rfl⟩) (by rw [v4]; exact hk) hTS2o (fun _ _ => rfl) rfl hr2 hr2l hM0 fun xs2 es2 gn2 g1 g2 g3 => ?_;refine Z8 (A.add m 1, n + 1, TS2, xs2, es2, gn2) [0, 1, 2, 3] ⟨hn1, hv2, hst, g1.trans v4, g2, g3⟩ hms2 ?_;exact ⟨by decide, Z9, ⟨rfl, rfl, rfl, rfl, trivial⟩, ⟨rfl, rfl, rfl, rfl, trivial⟩, rfl, rfl⟩
  ·have hrw := v3.row ht (by omega);refine Z2w Z0 hA hS [] ?_;cbv;refine ⟨iE, ⟨_, gE, ?_⟩⟩;cbv;refine bm (fun c => absurd (hym c) hnM) (fun _ => ?_);cbv;refine Bn.own_put (n := M) (fz' := ff) (ts' := TS1) 2 3 k 4 h1 h2 rfl rfl rfl (.inr ⟨4, 1, 0, .agg [I b2, .o 2 3 N], 1, 3, N, rfl, rfl, rfl⟩) (by rw [v4]; exact hk) (fun _ _ => rfl) (fun _ _ => rfl) rfl hrT hrl hM0 fun xs2 es2 gn2 g1 g2 g3 => ?_;refine Z7 ?_;cbv;refine ⟨hf1, ?_⟩;refine Z8 (A.add i 1, k + 1, TS1, xs2, es2, gn2) [0, 1, 2, 3] ⟨hk, hu2, hrw, g1.trans v4, g2, g3⟩ hms ?_;exact ⟨by decide, Z9, ⟨rfl, rfl, rfl, rfl, trivial⟩, ⟨rfl, rfl, rfl, trivial⟩, rfl, rfl⟩
 have hkN := hno c;have hall := u3.all (by omega);have hok2 := Bn.okS_cl hok;rw [<- hb2e] at hok2;rw [<- hall] at hok2;have hsh := Bn.okS_shop hok2 (by decide) (by decide);have hTSl : TS.length = N := by rw [hall, List.length_map, hN]
 have hv2 := Bn.chkS_val hsh.chk;obtain ⟨TL, hTL⟩ : ∃ TL, TL = TS.map Z14z := ⟨_, rfl⟩;have hTLl : TL.length = N := by rw [hTL, List.length_map, hTSl]
 have eT : A.eqN N (A.len TL) := Ze hA hTLl;have hsum : Bn.nWorks TS <= 6 := hok2.sum;have cPl := fun Q h => Bn.planOf x1 ⟨b2, TS⟩ (by show Bn.nWorks TS <= 1000; omega) (by show TS.length <= 1000; omega) TL hTL Q h;cbv;refine Z60 (a := { env := [(3, .b 0 0), (4, .b 1 0)], H := [pot x1, .box (.agg [I b2, .o 2 3 N]), .els 3 es, .ob (.gr 3 gn)], nt := 272, dfs := [] }) [0, 1, 2, 3] ⟨by decide, Z9, ⟨rfl, rfl, rfl, rfl, trivial⟩, ⟨rfl, rfl, trivial⟩, rfl, rfl⟩ ?_;refine Bn.own_melt 2 3 [0, 1, 2, 3] (fun es' gn' => { env := [(3, .b 0 0), (4, .b 1 0)], H := [pot x1, .box (.agg [I b2, .o 2 3 N]), .els 3 es', .ob (.gr 3 gn')], nt := 272, dfs := [] }) (by decide) u5 u6 (by rw [u4, hTSl]) (fun _ _ => rfl) (fun _ _ => rfl) (fun _ _ _ _ => rfl) (fun _ _ _ _ => rfl) (fun _ _ => ⟨by decide, Z9, ⟨rfl, rfl, rfl, rfl, trivial⟩, ⟨rfl, rfl, trivial⟩, rfl, rfl⟩) fun gn' => ?_;rw [<- hTL];refine Z1a hA [2] ?_;cbv;refine ⟨eT, ?_⟩;refine Z1a hA [1] ?_;cbv;refine Z60 (a := { env := [(3, .b 0 0), (4, .cb (.agg [I b2, .sl 3 TL]) 0)], H := [pot x1], nt := 272, dfs := [] }) [0] ⟨by decide, Z9, ⟨rfl, trivial⟩, ⟨rfl, rfl, trivial⟩, rfl, rfl⟩ ?_;refine Z7 ?_;cbv;refine Z4 hS [.b 0 0, .agg [I b2, .sl 3 TL]] [0] [pot x1] rfl rfl rfl rfl rfl rfl rfl rfl (by decide) ⟨rfl, trivial⟩ (cPl _ fun p PL x2 hp hPL => ?_);refine Z3 Z0 hA hS ?_;cbv;refine Z4 hS [.b 0 0, I 1, I 2] [0] [pot x2] rfl rfl rfl rfl rfl rfl rfl rfl (by decide) ⟨rfl, trivial⟩ (Zvc x2 1 2 (by omega) _ fun f1 x3 => ?_);refine Z3 Z0 hA hS ?_;cbv;refine Z4 hS [.b 0 0, I 1, I 2] [0] [pot x3] rfl rfl rfl rfl rfl rfl rfl rfl (by decide) ⟨rfl, trivial⟩ (Zvc x3 1 2 (by omega) _ fun f2 x4 => ?_);refine Z3 Z0 hA hS ?_;cbv;refine Z4 hS [I 0, I 5, I 5] [] [] rfl rfl rfl rfl rfl rfl rfl rfl (by decide) trivial (lIn 0 5 5 _ ?_);refine Z3 Z0 hA hS ?_;cbv;refine Z4 hS [I 1, I 5, I 5] [] [] rfl rfl rfl rfl rfl rfl rfl rfl (by decide) trivial (lIn 1 5 5 _ ?_);refine Z3 Z0 hA hS ?_;cbv;obtain ⟨FL, hFL⟩ : ∃ FL, FL = [Zv f1, Zv f2] := ⟨_, rfl⟩;obtain ⟨ML, hML⟩ : ∃ ML, ML = [mvD (mIn 0 5 5), mvD (mIn 1 5 5)] := ⟨_, rfl⟩;obtain ⟨j, hj⟩ : ∃ j : Jn, j = ⟨4, [f1, f2], [mIn 0 5 5, mIn 1 5 5]⟩ := ⟨_, rfl⟩;have hjo : JOk j := by rw [hj]; exact jOk2 f1 f2
 have hji : (4 : Int) = j.ins := by rw [hj]
 have hFj : FL = j.first.map Zv := by rw [hFL, hj]; rfl
 have hMj : ML = j.moves.map mvD := by rw [hML, hj]; rfl
 have eF : A.eqN 2 (A.len FL) := Ze hA (by rw [hFL]; rfl);have eM : A.eqN 2 (A.len ML) := Ze hA (by rw [hML]; rfl);obtain ⟨s2, hs2⟩ : ∃ s2 : Sh, s2 = ⟨b2, TS⟩ := ⟨_, rfl⟩;have hb22 : b2 = s2.benches := by rw [hs2]
 have hTL2 : TL = s2.tasks.map Z14z := by rw [hs2]; exact hTL
 rw [<- hs2] at hsh hp hv2;have hpl : p.length <= 6 := by rw [hp.len, hs2]; exact hsum
 obtain ⟨R, hR⟩ : ∃ R, R = runS s2 mo0 p := ⟨_, rfl⟩;have hRl : R.length = p.length := by rw [hR]; exact Bn.run_len s2 p
 have hbnd := Bn.run_bnd hv2 hp.le (by omega);have hb2b : b2 <= 2 := by rw [hb2e]; omega
 have hTs3 : s2.tasks.length <= 3 := by rw [hs2, hTSl]; exact hN3
 have hjl : j.first.length = 2 := by rw [hj]; rfl
 have hjm : j.moves.length = 2 := by rw [hj]; rfl
 have cWk := fun Q h => Z19g j hjo 4 hji FL ML hFj hMj s2 hsh b2 hb22 p hp TL PL hTL2 hPL (fun x hx => by have := hbnd x hx; rw [<- hb22] at this; rw [hjl, <- hji]; omega) (fun x hx => (hbnd x hx).2.2) (by rw [hjm]; omega) Q h;rw [<- hR] at cWk;have cRn := fun Q h => Bn.bRunPlan s2 hsh p hp TL PL hTL2 hPL Q h;rw [show (fun _ => (0 : Int)) = mo0 from rfl, <- hR, <- hb22] at cRn;have cSi := fun Q h => Bn.lShopIs s2 hsh b2 hb22 p hp TL PL hTL2 hPL Q h;refine Z3h hS (Z39 1 rfl hFL.symm (Z39 2 rfl hML.symm (Z1a hA [1, 2] ?_)));cbv
 repeat (first | refine ⟨eF, ?_⟩ | refine ⟨eM, ?_⟩)
 refine Z1a hA [3] ?_;cbv;refine Z60 (a := { env := [(4, .cb (.agg [I b2, .sl 3 TL]) 0), (7, .sl 1 PL), (8, .cb (.agg [I 4, .sl 1 FL, .sl 5 ML]) 0)], H := [], nt := 272, dfs := [] }) [] ⟨by decide, Z9, trivial, ⟨rfl, rfl, rfl, trivial⟩, rfl, rfl⟩ ?_;refine Z7 (Zb hS (Z2w Z0 hA hS [] ?_));cbv;refine Z4 hS [.agg [I 4, .sl 1 FL, .sl 5 ML], .agg [I b2, .sl 3 TL], .sl 1 PL] [] [] rfl rfl rfl rfl rfl rfl rfl rfl (by decide) trivial (cWk _ fun MX hMX => ?_);refine Z3 Z0 hA hS ?_;cbv;refine Z4 hS [.agg [I b2, .sl 3 TL], .sl 1 PL] [] [] rfl rfl rfl rfl rfl rfl rfl rfl (by decide) trivial (cRn _ fun RL hRL => ?_);refine Z3 Z0 hA hS ?_;cbv;have n00 : A.cmp .neq 0 0 = false := by subst hA; rfl
 have bnt : A.bnot true = false := by subst hA; rfl
 have hPl : PL.length = p.length := by rw [hPL]; simp [Z15w]
 have hRLl : RL.length = p.length := by rw [hRL, List.length_map, hRl]
 have hMXl : MX.length = p.length + 2 := by rw [hMX, List.length_map, List.length_append, hjm, List.length_map, Bn.sortB_len, hRl]; omega
 have ff2 : A.fits .i64 (A.add 2 (A.oi (A.len PL))) := Z14 hA (by rw [yoiL hA hPl, Z58 hA]) (by omega);have c1 : A.cmp .neq (A.oi (A.len MX)) (A.add 2 (A.oi (A.len PL))) = false := by rw [yoiL hA hMXl, yoiL hA hPl, Z58 hA]; subst hA; simp [ar, Z25]; omega
 have c2 : A.cmp .neq (A.oi (A.len RL)) (A.oi (A.len PL)) = false := by rw [yoiL hA hRLl, yoiL hA hPl]; subst hA; simp [ar, Z25]
 have cPs := fun Q h => Z196 (A.oi (A.len PL)) p.length ⟨yoiL hA hPl⟩ (by omega) Q h;obtain ⟨jx, hjx⟩ : ∃ jx : Jn, jx = ⟨4, [f1, f2], j.moves ++ (Z151 R).map outM⟩ := ⟨_, rfl⟩;have cWi := fun (PP : List D) (hPP : PP = Z1y ((List.range p.length).map (2 + ·))) Q h => Z18v jx (by rw [hjx]; show (j.moves ++ (Z151 R).map outM).length <= 1000; rw [List.length_append, List.length_map, Bn.sortB_len]; omega) ((List.range p.length).map (2 + ·)) (by simp; omega) FL MX PP (by rw [hjx]; exact hMX) hPP Q h;have hji2 : jx.ins = 4 := by rw [hjx]
 rw [hji2] at cWi;have hwo : (Z12 jx ((List.range p.length).map (2 + ·))).moves = j.moves := by
  have e : p.length = ((Z151 R).map outM).length := by rw [List.length_map, Bn.sortB_len, hRl]
  rw [hjx, hj, e];exact Z17d _ _ _
 have cSa := fun Q h => Zgg j FL ML hFj hMj (by omega) (by omega) Q h;rw [<- hji] at cSa;refine Z16 Z0 hA hS [0, 1, 2, 3, 4, 5, 6, 7, 8, 9, 10, 11, 12, 13, 14, 15, 16, 17, 18, 19, 20, 21, 22, 23, 24, 25, 26, 27, 28, 29, 30, 31, 34, 32, 33, 35, 36, 37] rfl rfl fun Dk hD => ?_;cbv;refine bmF n00 ?_;cbv;refine bmF n00 ?_;cbv;refine Zbm hA hD (b := false) rfl rfl rfl rfl rfl rfl rfl rfl rfl rfl rfl (fun _ => ⟨[], _, [.agg [I b2, .sl 3 TL], .sl 1 PL], [], [], rfl, rfl, rfl, by decide, trivial, cSi _ ⟨by cbv; repeat' (first | exact trivial | exact rfl | refine ⟨?_, ?_⟩), Zx Z0 hA hD ?_⟩⟩) (fun h => absurd rfl h);cbv;refine bmF bnt ?_;cbv;refine ⟨ff2, ?_⟩;refine bmF c1 ?_;cbv;refine bmF c2 ?_;cbv;refine Zbm hA hD (b := false) rfl rfl rfl rfl rfl rfl rfl rfl rfl rfl rfl (fun _ => ⟨[], _, [I 2, I (A.oi (A.len PL))], [], [], rfl, rfl, rfl, by decide, trivial, cPs _ fun PP hPP => ⟨by cbv; repeat' (first | exact trivial | exact rfl | refine ⟨?_, ?_⟩), Zx Z0 hA hD ?_⟩⟩) (fun h => absurd rfl h);cbv;refine Zbm hA hD (b := false) rfl rfl rfl rfl rfl rfl rfl rfl rfl rfl rfl (fun _ => ⟨[], _, [.agg [I 4, .sl 1 FL, .sl 5 MX], .sl 1 PP], [], [], rfl, rfl, rfl, by decide, trivial, cWi PP hPP _ fun MY hMY => ⟨by cbv; repeat' (first | exact trivial | exact rfl | refine ⟨?_, ?_⟩), Zx Z0 hA hD ?_⟩⟩) (fun h => absurd rfl h);have hMYe : MY = ML := by rw [hMY, hwo]; exact hMj.symm
 rw [hMYe];cbv;refine Zbm hA hD (b := false) rfl rfl rfl rfl rfl rfl rfl rfl rfl rfl rfl (fun _ => ⟨[], _, [.agg [I 4, .sl 1 FL, .sl 5 ML], .agg [I 4, .sl 1 FL, .sl 5 ML]], [], [], rfl, rfl, rfl, by decide, trivial, cSa _ ⟨by cbv; repeat' (first | exact trivial | exact rfl | refine ⟨?_, ?_⟩), Zx Z0 hA hD ?_⟩⟩) (fun h => absurd rfl h);cbv;refine bmF bnt ?_;cbv;obtain ⟨T, hT⟩ : ∃ T, T = Z151 R := ⟨_, rfl⟩;have hTl2 : T.length = p.length := by rw [hT, Bn.sortB_len, hRl]
 have hdone : ∀ (i : Nat) (x : Sl), T[i]? = some x -> ∃ c, Bn.DoneF s2 p T i x c := by rw [hT, hR]; exact fun i x h => Bn.done_at hv2 hp.le h
 have hsrt : Bn.SortB T := by rw [hT]; exact Bn.sortB_sort R
 have hTm : ∀ x ∈ T, x ∈ R := fun x hx => by rw [hT] at hx; exact (Bn.sortB_perm R).mem_iff.1 hx
 have hsame : ∀ x ∈ R, ∀ y ∈ R, y.t = x.t -> y.k = x.k -> y.bh = x.bh := by rw [hR]; exact fun x hx y hy h1 h2 => Bn.slot_same hv2 hp.le hx hy h1 h2
 have hall2 : ∀ c, c < N -> Bn.cntS T p.length c = (s2.tasks.getD c default).works.length := fun c hc => by rw [hT, hR]; exact Bn.took_all hv2 hp (by rw [hs2, hTSl]; exact hc)
 have hs2l : s2.tasks.length = N := by rw [hs2]; exact hTSl
 have hTLg : ∀ c, c < N -> ∃ tt : Tk, s2.tasks.getD c default = tt /\ TL[c]? = some (.agg [I tt.ready, I tt.due, .sl 3 (tt.works.map Z14x)]) := fun c hc => by
  obtain ⟨tt, htt⟩ : ∃ tt, s2.tasks[c]? = some tt := ⟨_, List.getElem?_eq_getElem (by omega)⟩;have e : TL[c]? = (s2.tasks.map Z14z)[c]? := congrArg (fun l : List D => l[c]?) hTL2;exact ⟨tt, by rw [List.getD_eq_getElem?_getD, htt]; rfl, by rw [e, List.getElem?_map, htt]; rfl⟩
 have hMXg : ∀ (i : Nat) (x : Sl), T[i]? = some x -> MX[2 + i]? = some (.agg [I 2, I x.b, I x.t, I 1, I 1]) := fun i x hx => by
  rw [hMX, <- hT, List.getElem?_map, List.getElem?_append_right (by rw [hjm]; omega), hjm, show 2 + i - 2 = i by omega, List.getElem?_map, hx]; rfl
 have htn : A.tn (A.oi (A.len TL)) = N := by rw [yoiL hA hTLl]; subst hA; rfl
 have hnn : A.nneg (A.oi (A.len TL)) := by rw [yoiL hA hTLl]; subst hA; show (0 : Int) <= (N : Int); omega
 have hrm : A.room (A.tn (A.oi (A.len TL))) 8 := by rw [htn]; exact Zj1 hA (by omega) (by decide)
 have hrep : A.rep (A.tn (A.oi (A.len TL))) (I 0) = Bn.tookL T 0 N := by rw [htn, Bn.tookL_zero]; subst hA; rfl
 obtain ⟨K0, hK0⟩ : ∃ K0, K0 = Bn.tookL T 0 N := ⟨_, rfl⟩;rw [<- hK0] at hrep;have hst0 : ∀ x, T[0]? = some x -> (0 : Int) <= x.bh := fun x hx => by
  have := (hbnd x (by rw [<- hR]; exact hTm x (List.mem_of_getElem? hx))).2.2; omega
 refine ⟨hnn, hrm, ?_⟩;refine Zb hS ?_;refine Za (α := Int × Nat × Int × List D) (fun q => { env := [(4, .cb (.agg [I b2, .sl 3 TL]) 0), (7, .sl 1 PL), (9, .cb (.agg [I 4, .sl 1 FL, .sl 5 MX]) 0), (11, .sl 7 RL), (13, .o 0 1 N), (14, I q.2.2.1), (15, I q.1)], H := [.els 1 q.2.2.2], nt := 272, dfs := [] })
  (fun q => p.length - q.2.1) (fun q => q.2.1 <= p.length /\ IsI q.1 q.2.1 /\ (∀ x, T[q.2.1]? = some x -> q.2.2.1 <= x.bh) /\ q.2.2.2 = Bn.tookL T q.2.1 N) (0, 0, 0, K0) ⟨Nat.zero_le _, ⟨rfl⟩, hst0, hK0⟩ ?_ ?_
 ·refine Z39 1 rfl hrep ?_;refine Zo7 13 (.o 1 1 N) rfl (WkD.eq (congrArg (fun n => D.o 1 1 n) htn)) ?_;refine Z1a hA [0] ?_;cbv;exact Zf [1] ⟨by decide, Z9, ⟨rfl, trivial⟩, ⟨rfl, rfl, rfl, rfl, rfl, rfl, rfl, trivial⟩, rfl, rfl⟩
 clear cWk cRn cSi cPs cWi cSa cPl hMY hPP hst0 hK0 hrep hrm hnn htn ff2 c1 c2;rintro ⟨i3, k3, last, TK⟩ ⟨u1', u2', u3', u4'⟩;dsimp only at u1' u2' u3' u4';have hTKl : TK.length = N := by rw [u4', Bn.tookL_len]
 have hyp : A.cmp .lss i3 (A.oi (A.len PL)) = true -> k3 < p.length := fun c => Z31 hA hPl u2' c;have hnp : A.cmp .lss i3 (A.oi (A.len PL)) = false -> k3 = p.length := fun c => by have := Z21 hA hPl u2' c; omega
 have h22 : A.cmp .neq 2 2 = false := by subst hA; rfl
 have h11 : A.bnot (A.leq [1, 1] [1, 1]) = false := by subst hA; rfl
 refine Z2w Z0 hA hS [] ?_;cbv;refine bm (fun c => ?_) (fun c => ?_)
 ·have hk := hyp c;obtain ⟨x, hx⟩ : ∃ x, T[k3]? = some x := ⟨_, List.getElem?_eq_getElem (by omega)⟩;obtain ⟨cN, hD⟩ := hdone k3 x hx;have hxR := hTm x (List.mem_of_getElem? hx);have hcN : cN < N := by have := hD.lt; omega
  obtain ⟨tt, htt, hTLk⟩ := hTLg cN hcN;obtain ⟨took, htook⟩ : ∃ took, took = Bn.cntS T k3 cN := ⟨_, rfl⟩;have hDt := hD.t;have hDk : x.k = (took : Int) := by rw [htook]; exact hD.took
  have hDm : took < tt.works.length := by rw [htook, <- htt]; exact hD.more
  have hDb : x.b = (tt.works.getD took default).b := by rw [htook, <- htt]; exact hD.b
  have hlx := u3' x hx;have hnl : ∀ x', T[k3 + 1]? = some x' -> x.bh <= x'.bh := fun x' hx' => by
   obtain ⟨ha, ea⟩ := List.getElem?_eq_some_iff.1 hx;obtain ⟨hb', eb⟩ := List.getElem?_eq_some_iff.1 hx';have := List.pairwise_iff_getElem.1 hsrt k3 (k3 + 1) ha hb' (Nat.lt_succ_self _);rw [ea, eb] at this; exact this
  obtain ⟨WL, hWL⟩ : ∃ WL, WL = tt.works.map Z14x := ⟨_, rfl⟩;rw [<- hWL] at hTLk;have hWl : WL.length = tt.works.length := by rw [hWL, List.length_map]
  obtain ⟨w, hw⟩ : ∃ w, tt.works[took]? = some w := ⟨_, List.getElem?_eq_getElem hDm⟩;have hwb : x.b = w.b := by rw [hDb, List.getD_eq_getElem?_getD, hw]; rfl
  have hMk := hMXg k3 x hx;have hTKs := Bn.tookL_next hx hDt hcN;have hxI : ∀ y ∈ R, y.t = x.t -> y.k = x.k -> y.bh = x.bh := fun y hy => hsame x hxR y hy;obtain ⟨xt, xk, xb, xbl, xbh, xel, xeh⟩ := x;obtain ⟨wb, wlo, whi⟩ := w;dsimp only at hDt hDk hwb hlx hnl hMk hTKs hxI;have cI : IsI xt cN := ⟨hDt⟩;have tI : IsI (took : Int) took := ⟨rfl⟩;obtain ⟨tk, htk⟩ : ∃ tk : Int, tk = took := ⟨_, rfl⟩;have tkI : IsI tk took := ⟨htk⟩;have iT := Z4o hA cI hcN;have gT := Z18 hA cI (show TK[cN]? = some (I tk) by rw [u4', Bn.tookL_get T k3 hcN, htk, htook]);have iL := Z1b hA hTLl cI hcN;have gL := Z18 hA cI hTLk;have iW := Z1b hA hWl tkI hDm;have gW := Z18 hA tkI (show WL[took]? = some (.agg [I wb, I wlo, I whi]) by rw [hWL, List.getElem?_map, hw]; rfl);have mI : IsI (A.add 2 i3) (2 + k3) := ⟨by rw [Z58 hA, u2'.eq]; omega⟩;have fm : A.fits .i64 (A.add 2 i3) := Z14 hA mI.eq (by omega);have iM := Z1b hA hMXl mI (by omega);have gM := Z18 hA mI hMk;have d1 : A.cmp .lss xt 0 = false := by have := cI.eq; subst hA; simp [ar, Z25]; omega
  have d2 : A.cmp .geq xt (A.oi (A.len TL)) = false := by rw [yoiL hA hTLl, cI.eq]; subst hA; simp [ar, Z25]; omega
  have d3 : A.cmp .geq tk (A.oi (A.len WL)) = false := by rw [yoiL hA hWl, tkI.eq]; subst hA; simp [ar, Z25]; omega
  have d4 : A.cmp .neq xb wb = false := by rw [hwb]; subst hA; simp [ar, Z25]
  have hfp := Zy hA u2' (by omega);have hu2p := Zz hA u2';have hms3 : p.length - (k3 + 1) < p.length - k3 := by omega
  have ftk : A.fits .i64 (A.add tk 1) := Zy hA tkI (by have := hv2.sum; have := hcN; have h8 := Bn.works_leV hv2 (t := tt) (by rw [<- htt]; exact Bn.getD_mem (by omega)); omega);have hTK2 : A.set TK (A.tn xt) (I (A.add tk 1)) = Bn.tookL T (k3 + 1) N := by rw [Z7n hA cI rfl, u4', Z58 hA, htk, htook]; exact hTKs
  cbv;refine ⟨fm, iM, ⟨_, gM, ?_⟩⟩;cbv;refine Z16 Z0 hA hS [0, 1, 2, 3, 4, 5, 6, 7, 8, 9, 10, 11, 12, 13, 14, 15, 16, 17, 18, 19, 20, 21, 22, 23, 24, 25, 26, 27, 28, 29, 30, 31, 32, 33, 34, 35, 36, 37, 38, 39, 40, 41, 42, 43, 44, 45, 46, 47, 48, 49, 50, 51, 52, 53, 54, 55, 56, 57] rfl rfl fun Dk2 hD2 => ?_;cbv;refine bmF h22 ?_;cbv;refine Zbm hA hD2 (b := false) rfl rfl rfl rfl rfl rfl rfl rfl rfl rfl rfl (fun _ => ⟨[], _, [I 1, I 1], [], [], rfl, rfl, rfl, by decide, trivial, lTo 1 1 _ ⟨by cbv; repeat' (first | exact trivial | exact rfl | refine ⟨?_, ?_⟩), Zx Z0 hA hD2 ?_⟩⟩) (fun h => absurd rfl h);cbv;refine FlatEq.mk ⟨[1, 1], [1, 1], rfl, rfl, rfl, rfl, ?_⟩;cbv;refine bmF h11 ?_;cbv;refine bmF d1 ?_;cbv;refine bmF d2 ?_;cbv;refine ⟨iT, ⟨_, gT, ?_⟩⟩;cbv;refine ⟨iL, ⟨_, gL, ?_⟩⟩;cbv;refine bmF d3 ?_;cbv;refine ⟨iL, ⟨_, gL, ?_⟩⟩;cbv;refine ⟨iT, ⟨_, gT, ?_⟩⟩;cbv;refine ⟨iW, ⟨_, gW, ?_⟩⟩;cbv;refine bmF d4 ?_;cbv;refine Zb hS ?_;refine Za (α := Int × Nat × Int) (fun q => { env := [(4, .cb (.agg [I b2, .sl 3 TL]) 0), (7, .sl 1 PL), (9, .cb (.agg [I 4, .sl 1 FL, .sl 5 MX]) 0), (11, .sl 7 RL), (13, .o 0 1 N), (14, I q.2.2), (15, I i3), (16, .cb (.agg [I 2, I xb, I xt, I 1, I 1]) 0), (17, I q.1)], H := [.els 1 TK], nt := 272, dfs := [] })
   (fun q => p.length - q.2.1) (fun q => q.2.1 <= p.length /\ IsI q.1 q.2.1 /\ q.2.2 <= xbh) (0, 0, last) ⟨Nat.zero_le _, ⟨rfl⟩, hlx⟩ ?_ ?_
  ·refine Z1a hA [1] ?_;cbv;exact Zf [0] ⟨by decide, Z9, ⟨rfl, trivial⟩, ⟨rfl, rfl, rfl, rfl, rfl, rfl, rfl, rfl, rfl, trivial⟩, rfl, rfl⟩
  rintro ⟨kI, k4, la⟩ ⟨w1, w2, w3⟩;dsimp only at w1 w2 w3;have hyr : A.cmp .lss kI (A.oi (A.len RL)) = true -> k4 < p.length := fun c => Z31 hA hRLl w2 c;have hnr : A.cmp .lss kI (A.oi (A.len RL)) = false -> p.length <= k4 := fun c => Z21 hA hRLl w2 c;refine Z2w Z0 hA hS [] ?_;cbv;refine bm (fun c => ?_) (fun c => ?_)
  ·have hk4 := hyr c;obtain ⟨y, hy⟩ : ∃ y, R[k4]? = some y := ⟨_, List.getElem?_eq_getElem (by omega)⟩;have hyx := hxI y (List.mem_of_getElem? hy);have gR0 : RL[k4]? = some (Z14v y) := by rw [hRL, List.getElem?_map, hy]; rfl
   obtain ⟨yt, yk, yb, ybl, ybh, yel, yeh⟩ := y;dsimp only at hyx;have gR := Z18 hA w2 (show RL[k4]? = some (.agg [I yt, I yk, I yb, I ybl, I ybh, I yel, I yeh]) from gR0);have iR := Z1b hA hRLl w2 hk4;have hfk := Zy hA w2 (by omega);have hw2 := Zz hA w2;have hms4 : p.length - (k4 + 1) < p.length - k4 := by omega
   have hmat : A.cmp .eql yt xt = true -> A.cmp .eql yk tk = true -> ybh = xbh := fun h1 h2 => hyx (xeq hA h1) ((xeq hA h2).trans (htk.trans hDk.symm));have hlb : ybh = xbh -> A.cmp .lss ybh la = false /\ ybh <= xbh := fun h => ⟨by rw [h]; subst hA; simp [ar, Z25]; exact w3, Int.le_of_eq h⟩;clear gR0;cbv;refine Z16 Z0 hA hS [0, 1, 2, 3, 4, 5, 6, 7, 8, 9, 10, 11, 12, 13, 14, 15, 16, 17, 18, 19, 20] rfl rfl fun Dk3 hD3 => ?_;cbv;refine ⟨iR, ⟨_, gR, ?_⟩⟩;cbv;refine bm (fun e1 => ?_) (fun e1 => ?_)
   ·cbv;refine ⟨iR, ⟨_, gR, ?_⟩⟩;cbv;refine ⟨iT, ⟨_, gT, ?_⟩⟩;cbv;refine bm (fun e2 => ?_) (fun e2 => ?_)
    ·have hm := hmat e1 e2;obtain ⟨hlb1, hlb2⟩ := hlb hm;cbv;refine ⟨iR, ⟨_, gR, ?_⟩⟩;cbv;refine bmF hlb1 ?_;cbv;refine ⟨iR, ⟨_, gR, ?_⟩⟩;cbv;refine ⟨hfk, ?_⟩;refine Z8 (A.add kI 1, k4 + 1, ybh) [0] ⟨hk4, hw2, hlb2⟩ hms4 ?_;exact ⟨by decide, Z9, ⟨rfl, trivial⟩, ⟨rfl, rfl, rfl, rfl, rfl, rfl, rfl, rfl, rfl, trivial⟩, rfl, rfl⟩
    ·cbv;refine ⟨hfk, ?_⟩;refine Z8 (A.add kI 1, k4 + 1, la) [0] ⟨hk4, hw2, w3⟩ hms4 ?_;exact ⟨by decide, Z9, ⟨rfl, trivial⟩, ⟨rfl, rfl, rfl, rfl, rfl, rfl, rfl, rfl, rfl, trivial⟩, rfl, rfl⟩
   ·cbv;refine ⟨hfk, ?_⟩;refine Z8 (A.add kI 1, k4 + 1, la) [0] ⟨hk4, hw2, w3⟩ hms4 ?_;exact ⟨by decide, Z9, ⟨rfl, trivial⟩, ⟨rfl, rfl, rfl, rfl, rfl, rfl, rfl, rfl, rfl, trivial⟩, rfl, rfl⟩
  ·have hnx : ∀ x', T[k3 + 1]? = some x' -> la <= x'.bh := fun x' hx' => Int.le_trans w3 (hnl x' hx');cbv;refine Z7 ?_;cbv;refine ⟨iT, ⟨_, gT, ?_⟩⟩;cbv;refine ⟨ftk, iT, ⟨⟨_, gT, ?_⟩⟩⟩;cbv;refine ⟨hfp, ?_⟩;refine Z8 (A.add i3 1, k3 + 1, la, A.set TK (A.tn xt) (I (A.add tk 1))) [0] ⟨hk, hu2p, hnx, hTK2⟩ hms3 ?_;exact ⟨by decide, Z9, ⟨rfl, trivial⟩, ⟨rfl, rfl, rfl, rfl, rfl, rfl, rfl, trivial⟩, rfl, rfl⟩
 have hkp := hnp c;rw [hkp] at u4';cbv;refine Z7 ?_;cbv;refine Zb hS ?_;refine Za (α := Int × Nat) (fun q => { env := [(4, .cb (.agg [I b2, .sl 3 TL]) 0), (13, .o 0 1 N), (18, I q.1)], H := [.els 1 TK], nt := 272, dfs := [] })
  (fun q => N - q.2) (fun q => q.2 <= N /\ IsI q.1 q.2) (0, 0) ⟨Nat.zero_le _, ⟨rfl⟩⟩ ?_ ?_
 ·exact Zf [0] ⟨by decide, Z9, ⟨rfl, trivial⟩, ⟨rfl, rfl, rfl, trivial⟩, rfl, rfl⟩
 rintro ⟨cI, c5⟩ ⟨z1, z2⟩;dsimp only at z1 z2;have hyc : A.cmp .lss cI (A.oi N) = true -> c5 < N := fun c => by have := xlt hA c; rw [xoi hA] at this; have := z2.eq; omega
 refine Z2w Z0 hA hS [] ?_;cbv;refine bm (fun c => ?_) (fun c => ?_)
 ·have hc5 := hyc c;obtain ⟨tt, htt, hTLk⟩ := hTLg c5 hc5;have hal := hall2 c5 hc5;rw [htt] at hal;obtain ⟨WL, hWL⟩ : ∃ WL, WL = tt.works.map Z14x := ⟨_, rfl⟩;rw [<- hWL] at hTLk;have hWl : WL.length = tt.works.length := by rw [hWL, List.length_map]
  obtain ⟨tk, htk⟩ : ∃ tk : Int, tk = tt.works.length := ⟨_, rfl⟩;have iT := Z4o hA z2 hc5;have gT := Z18 hA z2 (show TK[c5]? = some (I tk) by rw [u4', Bn.tookL_get T p.length hc5, htk, hal]);have iL := Z1b hA hTLl z2 hc5;have gL := Z18 hA z2 hTLk;have d1 : A.cmp .neq tk (A.oi (A.len WL)) = false := by rw [yoiL hA hWl, htk]; subst hA; simp [ar, Z25]
  have hfc := Zy hA z2 (by omega);have hz2 := Zz hA z2;have hms5 : N - (c5 + 1) < N - c5 := by omega
  cbv;refine Z16 Z0 hA hS [0, 1, 2, 3, 4, 5, 6, 7, 8, 9, 10, 11] rfl rfl fun Dk4 hD4 => ?_;cbv;refine ⟨iT, ⟨_, gT, ?_⟩⟩;cbv;refine ⟨iL, ⟨_, gL, ?_⟩⟩;cbv;refine bmF d1 ?_;cbv;refine ⟨hfc, ?_⟩;refine Z8 (A.add cI 1, c5 + 1) [0] ⟨hc5, hz2⟩ hms5 ?_;exact ⟨by decide, Z9, ⟨rfl, trivial⟩, ⟨rfl, rfl, rfl, trivial⟩, rfl, rfl⟩
 ·cbv;refine Z7 ?_;cbv;refine Z4 hS [] [] [] rfl rfl rfl rfl rfl rfl rfl rfl (by decide) trivial (Zov _ ?_);refine Z3 Z0 hA hS ?_;cbv;exact Z2 [] (by decide) Z9 (H' := []) (d' := .v (.bool true)) trivial rfl (Z1 hq)
end Go.Proofs.YtegjabljeepbdaaGreatDoor

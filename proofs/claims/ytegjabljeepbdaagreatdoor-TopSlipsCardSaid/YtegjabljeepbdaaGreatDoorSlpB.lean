/- Part SlpB of the proofs about the benches of the accordion maker: see the last text of the claim for what is proved. -/
import Derived.Test.YtegjabljeepbdaaGreatDoorRunR
import Derived.Test.YtegjabljeepbdaaGreatDoorDrnA
import Derived.Test.YtegjabljeepbdaaGreatDoorSlpA
import Derived.Test.YtegjabljeepbdaaGreatDoorRunS
import Derived.Test.YtegjabljeepbdaaGreatDoorRunT
import Derived.Test.YtegjabljeepbdaaGreatDoorRunG
set_option linter.unusedVariables false
set_option linter.unusedSimpArgs false
set_option linter.unnecessarySimpa false
set_option linter.constructorNameAsVariable false

namespace Go.Proofs.YtegjabljeepbdaaGreatDoor
open Go Go.Abs Go.Proofs Go.Batch
open Bn (Sl Sh Tk Wk Z14v Z14z Z14x runS Z151 ShopOk PlanOk PlanLe Val mo0 OkS ff ownE ownN elT tkZ Cl clWs clW Z15w)
set_option maxRecDepth 40000 in
set_option maxHeartbeats 16000000 in
theorem Z1cp (L : List D) (nums : List Int) (hL : L = nums.map I) (hl : L.length <= 9223372036854775807) (Q) (hq : Q (RA.ret (.v (.bool true))) []) : CallA Tryz.prog 3 [.sl 1 L] [] Q := by
 obtain ⟨A, hA⟩ : ∃ A, A = ar := ⟨_, rfl⟩;refine Z38 Z0 hA [] Tryz.func3 rfl rfl rfl rfl rfl fun S hS => ?_;cbv;refine Z4 hS [.sl 1 L] [] [] rfl rfl rfl rfl rfl rfl rfl rfl (by decide) trivial (Zvp L nums hL hl _ fun x0 => ?_);refine Z3 Z0 hA hS ?_;cbv;refine Z4 hS [.b 0 0, I 3, I 3] [0] [pot x0] rfl rfl rfl rfl rfl rfl rfl rfl (by decide) ⟨rfl, trivial⟩ (Bn.shopOfG x0 3 3 (by decide) (by decide) _ fun s xs0 es0 gn0 N x1 hok hxl hN hes0 hgn0 => ?_);obtain ⟨bn, hbn⟩ : ∃ bn, bn = s.benches := ⟨_, rfl⟩;rw [<- hbn];obtain ⟨b2, hb2⟩ : ∃ b2, b2 = A.min bn 2 := ⟨_, rfl⟩;have hb2e : b2 = min s.benches 2 := by rw [hb2, Zir hA, hbn]
 have hN3 : N <= 3 := by rw [hN]; exact hok.len
 refine Z3 Z0 hA hS ?_;cbv;refine Zb hS ?_;refine Za (α := Int × Nat × List Tk × List Value × List D × List Ent) (fun q => { env := [(3, .b 0 0), (4, .b 1 0), (5, I q.1)], H := [pot x1, .box (.agg [I b2, .o 2 3 N]), .els 3 q.2.2.2.2.1, .ob (.gr 3 q.2.2.2.2.2)], nt := 270, dfs := [] })
  (fun q => N - q.2.1) (fun q => q.2.1 <= N /\ IsI q.1 q.2.1 /\ Cl b2 s.tasks q.2.2.1 q.2.1 0 /\ q.2.2.2.1.length = N /\ q.2.2.2.2.1 = ownE q.2.2.1 q.2.2.2.1 ff /\ q.2.2.2.2.2 = ownN q.2.2.1 q.2.2.2.1 ff) (0, 0, s.tasks, xs0, es0, gn0) ⟨Nat.zero_le _, ⟨rfl⟩, Cl.zero b2 s.tasks, hxl.trans hN.symm, hes0, hgn0⟩ ?_ ?_
 ·refine Zog 3 rfl (congrArg (fun z => Blk.box (.agg [I z, .o 1 3 N])) hb2.symm) ?_;exact Zf [0, 3, 1, 2] ⟨by decide, Z9, ⟨rfl, rfl, rfl, rfl, trivial⟩, ⟨rfl, rfl, rfl, trivial⟩, rfl, rfl⟩
 rintro ⟨i, k, TS, xs, es, gn⟩ ⟨u1, u2, u3, u4, u5, u6⟩;dsimp only at u1 u2 u3 u4 u5 u6;have hyes : A.cmp .lss i (A.oi N) = true -> k < N := fun c => by have := xlt hA c; rw [xoi hA] at this; have := u2.eq; omega
 have hno : A.cmp .lss i (A.oi N) = false -> k = N := fun c => by have := Z7x hA c; rw [xoi hA] at this; have := u2.eq; omega
 refine Z2w Z0 hA hS [] ?_;cbv;refine bm (fun c => ?_) (fun c => ?_)
 ·have hk := hyes c;obtain ⟨t, ht⟩ : ∃ t, s.tasks[k]? = some t := ⟨_, List.getElem?_eq_getElem (by omega)⟩;have hoT := hok.tk t (List.mem_of_getElem? ht);have hw3 := hoT.w1;have hw1 := hoT.w0;have hf1 := Zy hA u2 (by omega);have hu2 := Zz hA u2;have hms : N - (k + 1) < N - k := by omega
  cbv;refine Zb hS ?_;refine Za (α := Int × Nat × List Tk × List Value × List D × List Ent) (fun q => { env := [(3, .b 0 0), (4, .b 1 0), (5, I i), (6, I q.1)], H := [pot x1, .box (.agg [I b2, .o 2 3 N]), .els 3 q.2.2.2.2.1, .ob (.gr 3 q.2.2.2.2.2)], nt := 270, dfs := [] })
   (fun q => t.works.length - q.2.1) (fun q => q.2.1 <= t.works.length /\ IsI q.1 q.2.1 /\ Cl b2 s.tasks q.2.2.1 k q.2.1 /\ q.2.2.2.1.length = N /\ q.2.2.2.2.1 = ownE q.2.2.1 q.2.2.2.1 ff /\ q.2.2.2.2.2 = ownN q.2.2.1 q.2.2.2.1 ff) (0, 0, TS, xs, es, gn) ⟨Nat.zero_le _, ⟨rfl⟩, u3, u4, u5, u6⟩ ?_ ?_
  ·exact Zf [0, 1, 2, 3] ⟨by decide, Z9, ⟨rfl, rfl, rfl, rfl, trivial⟩, ⟨rfl, rfl, rfl, rfl, trivial⟩, rfl, rfl⟩
  rintro ⟨m, n, TS1, xs1, es0', gn0'⟩ ⟨v1, v2, v3, v4, v5, v6⟩;dsimp only at v1 v2 v3 v4 v5 v6;obtain ⟨row, hrow⟩ : ∃ row, row = (clWs b2 t.works n).map Z14x := ⟨_, rfl⟩;obtain ⟨M, hM⟩ : ∃ M, M = t.works.length := ⟨_, rfl⟩;have hrl : M = row.length := by rw [hrow, List.length_map, Bn.clWs_len, hM]
  have hTk := v3.get ht;have hrT : row = (TS1.getD k tkZ).works.map Z14x := by rw [hTk]; exact hrow
  have hM0 : 0 < M := by omega
  have iE : A.inb i N := Z4o hA u2 hk;have hym : A.cmp .lss m (A.oi M) = true -> n < M := fun c => by have := xlt hA c; rw [xoi hA] at this; have := v2.eq; omega
  have hnm : A.cmp .lss m (A.oi M) = false -> M <= n := fun c => by have := Z7x hA c; rw [xoi hA] at this; have := v2.eq; omega
  refine Ziq (Bn.own_take 2 3 k 4 (n := M) v5 v6 rfl rfl rfl (by decide) (by rw [v4]; exact hk) rfl hrT hrl fun es1 gn1 h1 h2 => ?_);have he1 : elT TS1 k (.o 4 3 M) = .agg [I t.ready, I t.due, .o 4 3 M] := by unfold elT; rw [hTk]
  have gE := Z18 hA u2 (show es1[k]? = some (.agg [I t.ready, I t.due, .o 4 3 M]) by rw [h1, List.getElem?_set_self (by rw [Bn.ownE_len, v4]; exact hk), he1]);refine Z7 ?_
  by_cases hnM : n < M
  ·obtain ⟨w, hw⟩ : ∃ w, t.works[n]? = some w := ⟨_, List.getElem?_eq_getElem (by omega)⟩;have how := hoT.wk w (List.mem_of_getElem? hw);have hst := v3.step ht hw;obtain ⟨wb, wlo, whi⟩ := w;have hwb0 : 0 <= wb := how.b0;have hwb1 : wb < s.benches := how.b1;have gW := Z18 hA v2 (show row[n]? = some (.agg [I wb, I wlo, I whi]) by rw [hrow, List.getElem?_map, Bn.clWs_get b2 hw]; rfl);have iW : A.inb m M := Z4o hA v2 hnM;have fs : A.fits .i64 (A.sub b2 1) := Z14 hA (Z24 hA b2 1) (by have := hok.b0; have := hok.b1; omega);obtain ⟨row2, hrow2⟩ : ∃ row2, row2 = A.set row (A.tn m) (.agg [I (A.min wb (A.sub b2 1)), I wlo, I whi]) := ⟨_, rfl⟩;obtain ⟨TS2, hTS2⟩ : ∃ TS2, TS2 = TS1.set k ⟨t.ready, t.due, (clWs b2 t.works n).set n (clW b2 ⟨wb, wlo, whi⟩)⟩ := ⟨_, rfl⟩;rw [<- hTS2] at hst;have hTS2k : TS2.getD k tkZ = ⟨t.ready, t.due, (clWs b2 t.works n).set n (clW b2 ⟨wb, wlo, whi⟩)⟩ := by
    rw [hTS2]; exact Bn.tkD_get (List.getElem?_set_self (by rw [v3.len]; omega))
   have hTS2o : ∀ j, j ≠ k -> TS2.getD j tkZ = TS1.getD j tkZ := fun j hj => by
    rw [hTS2, List.getD_eq_getElem?_getD, List.getElem?_set_ne (fun g => hj g.symm), List.getD_eq_getElem?_getD]
   have hr2 : row2 = (TS2.getD k tkZ).works.map Z14x := by
    rw [hTS2k, hrow2, Z7n hA v2 rfl, hrow, List.map_set];show _ = List.set _ n (Z14x (clW b2 ⟨wb, wlo, whi⟩));rw [Zir hA, Z24 hA]; rfl
   have hr2l : M = row2.length := by rw [hrow2, Z7n hA v2 rfl, List.length_set]; exact hrl
   have h1' : es1 = (ownE TS1 xs1 ff).set k (elT TS2 k (.o 4 3 M)) := by
    rw [h1]; unfold elT; rw [hTk, hTS2k]
   have hn1 : n + 1 <= t.works.length := by omega
   have hfm := Zy hA v2 (by omega);have hv2 := Zz hA v2;have hms2 : t.works.length - (n + 1) < t.works.length - n := by omega
   refine Z2w Z0 hA hS [] ?_;cbv;refine ⟨iE, ⟨_, gE, ?_⟩⟩;cbv;refine bm (fun _ => ?_) (fun c => absurd (hnm c) (by omega));cbv;refine Z16 Z0 hA hS [0, 1, 2, 3, 4, 5, 6, 7, 8, 9, 10, 11, 12, 13, 14, 15, 16, 17, 18, 19, 20, 21, 22, 23] rfl rfl fun Dk hD => ?_;cbv;refine ⟨iE, ⟨_, gE, ?_⟩⟩;cbv;refine ⟨iE, ⟨_, gE, ?_⟩⟩;cbv;refine ⟨iW, ⟨_, gW, ?_⟩⟩;cbv;refine ⟨fs, iW, ⟨⟨_, gW, ?_⟩⟩⟩;cbv;refine ⟨hfm, ?_⟩;refine Z39 4 rfl hrow2.symm ?_;refine Bn.own_put (n := M) (fz' := ff) (ts' := TS2) 2 3 k 4 h1' h2 rfl rfl rfl (.inr ⟨4, 1, 0, .agg [I b2, .o 2 3 N], 1, 3, N, rfl, rfl, rfl⟩) (by rw [v4]; exact hk) hTS2o (fun _ _ => rfl) rfl hr2 hr2l hM0 fun xs2 es2 gn2 g1 g2 g3 => ?_;refine Z8 (A.add m 1, n + 1, TS2, xs2, es2, gn2) [0, 1, 2, 3] ⟨hn1, hv2, hst, g1.trans v4, g2, g3⟩ hms2 ?_;exact ⟨by decide, Z9, ⟨rfl, rfl, rfl, rfl, trivial⟩, ⟨rfl, rfl, rfl, rfl, trivial⟩, rfl, rfl⟩
  ·have hrw := v3.row ht (by omega);refine Z2w Z0 hA hS [] ?_;cbv;refine ⟨iE, ⟨_, gE, ?_⟩⟩;cbv;refine bm (fun c => absurd (hym c) hnM) (fun _ => ?_);cbv;refine Bn.own_put (n := M) (fz' := ff) (ts' := TS1) 2 3 k 4 h1 h2 rfl rfl rfl (.inr ⟨4, 1, 0, .agg [I b2, .o 2 3 N], 1, 3, N, rfl, rfl, rfl⟩) (by rw [v4]; exact hk) (fun _ _ => rfl) (fun _ _ => rfl) rfl hrT hrl hM0 fun xs2 es2 gn2 g1 g2 g3 => ?_;refine Z7 ?_;cbv;refine ⟨hf1, ?_⟩;refine Z8 (A.add i 1, k + 1, TS1, xs2, es2, gn2) [0, 1, 2, 3] ⟨hk, hu2, hrw, g1.trans v4, g2, g3⟩ hms ?_;exact ⟨by decide, Z9, ⟨rfl, rfl, rfl, rfl, trivial⟩, ⟨rfl, rfl, rfl, trivial⟩, rfl, rfl⟩
 have hkN := hno c;have hall := u3.all (by omega);have hok2 := Bn.okS_cl hok;rw [<- hb2e] at hok2;rw [<- hall] at hok2;have hsh := Bn.okS_shop hok2 (by decide) (by decide);have hTSl : TS.length = N := by rw [hall, List.length_map, hN]
 have hv2 := Bn.chkS_val hsh.chk;obtain ⟨TL, hTL⟩ : ∃ TL, TL = TS.map Z14z := ⟨_, rfl⟩;have hTLl : TL.length = N := by rw [hTL, List.length_map, hTSl]
 have eT : A.eqN N (A.len TL) := Ze hA hTLl;cbv;refine Z60 (a := { env := [(3, .b 0 0), (4, .b 1 0)], H := [pot x1, .box (.agg [I b2, .o 2 3 N]), .els 3 es, .ob (.gr 3 gn)], nt := 270, dfs := [] }) [0, 1, 2, 3] ⟨by decide, Z9, ⟨rfl, rfl, rfl, rfl, trivial⟩, ⟨rfl, rfl, trivial⟩, rfl, rfl⟩ ?_;refine Bn.own_melt 2 3 [0, 1, 2, 3] (fun es' gn' => { env := [(3, .b 0 0), (4, .b 1 0)], H := [pot x1, .box (.agg [I b2, .o 2 3 N]), .els 3 es', .ob (.gr 3 gn')], nt := 270, dfs := [] }) (by decide) u5 u6 (by rw [u4, hTSl]) (fun _ _ => rfl) (fun _ _ => rfl) (fun _ _ _ _ => rfl) (fun _ _ _ _ => rfl) (fun _ _ => ⟨by decide, Z9, ⟨rfl, rfl, rfl, rfl, trivial⟩, ⟨rfl, rfl, trivial⟩, rfl, rfl⟩) fun gn' => ?_;rw [<- hTL];have hsum : Bn.nWorks TS <= 3 := hok2.sum;refine Z1a hA [2] ?_;cbv;refine ⟨eT, ?_⟩;refine Z1a hA [1] ?_;cbv;refine Z60 (a := { env := [(3, .b 0 0), (4, .cb (.agg [I b2, .sl 3 TL]) 0)], H := [pot x1], nt := 270, dfs := [] }) [0] ⟨by decide, Z9, ⟨rfl, trivial⟩, ⟨rfl, rfl, trivial⟩, rfl, rfl⟩ ?_;refine Z7 ?_;clear hok hxl hN hes0 hgn0 hbn hb2 u3 u4 u5 u6 hall hyes hno u1 u2;cbv;refine Z4 hS [.b 0 0, I 1, I 2] [0] [pot x1] rfl rfl rfl rfl rfl rfl rfl rfl (by decide) ⟨rfl, trivial⟩ (Zvc x1 1 2 (by omega) _ fun f1 x2 => ?_);refine Z3 Z0 hA hS ?_;cbv;refine Z4 hS [.b 0 0, I 1, I 2] [0] [pot x2] rfl rfl rfl rfl rfl rfl rfl rfl (by decide) ⟨rfl, trivial⟩ (Zvc x2 1 2 (by omega) _ fun f2 x3 => ?_);refine Z3 Z0 hA hS ?_;cbv;obtain ⟨FB, hFB⟩ : ∃ FB, FB = [Zv f1, Zv f2] := ⟨_, rfl⟩;have eFB : A.eqN 2 (A.len FB) := Ze hA (by rw [hFB]; rfl);refine Z4 hS [.b 0 0, I 2, I 4] [0] [pot x3] rfl rfl rfl rfl rfl rfl rfl rfl (by decide) ⟨rfl, trivial⟩ (Zn3 x3 2 4 (by decide) _ fun mI x4 hm2 hm4 => ?_);obtain ⟨M, hM, hM2, hM4⟩ : ∃ M : Nat, mI = (M : Int) /\ 2 <= M /\ M <= 4 := ⟨mI.toNat, by omega, by omega, by omega⟩;have mIs : IsI mI M := ⟨hM⟩;refine Z3 Z0 hA hS ?_;cbv;refine Zb hS ?_;refine Za (α := Int × Nat × List (Int × Int) × List D × Int × Nat) (fun q => { env := [(3, .b 0 0), (4, .cb (.agg [I b2, .sl 3 TL]) 0), (7, .b 1 0), (8, I mI), (9, I q.1)], H := [pot q.2.2.2.2.1, .box (.agg [I 3, .sl 1 FB, .o 2 5 q.2.2.2.2.2]), .els 5 q.2.2.2.1], nt := 270, dfs := [] })
  (fun q => M - q.2.1) (fun q => q.2.1 <= M /\ IsI q.1 q.2.1 /\ q.2.2.1.length = q.2.1 /\ (∀ r ∈ q.2.2.1, 3 <= r.1 /\ r.1 <= r.2 /\ r.2 <= 5) /\ q.2.2.2.1 = (insS q.2.2.1 0).map mvD /\ q.2.2.2.2.2 = q.2.1) (0, 0, [], [], x4, 0) ⟨Nat.zero_le _, ⟨rfl⟩, rfl, fun r hr => by simp at hr, rfl, rfl⟩ ?_ ?_
 ·refine Z39 1 rfl hFB.symm ?_;refine Z1a hA [1] ?_;cbv
  repeat (first | refine ⟨eFB, ?_⟩)
  refine Zfk 2 2 5 (.agg [I 3, .sl 1 FB, .o 3 5 0]) rfl rfl rfl ?_;exact Zf [0, 2, 3] ⟨by decide, Z9, ⟨rfl, rfl, rfl, trivial⟩, ⟨rfl, rfl, rfl, rfl, rfl, trivial⟩, rfl, rfl⟩
 rintro ⟨i, k, l, MR, x, nm⟩ ⟨u1, u2, u3, u4, u5, u6⟩;dsimp only at u1 u2 u3 u4 u5 u6;have hMl : MR.length = nm := by rw [u5, List.length_map, Z1cf, u3, u6]
 by_cases hk : k < M
 ·have dlt : A.cmp .lss i mI = true := by rw [u2.eq, mIs.eq]; subst hA; simp [ar, Z25]; omega
  have rI : IsI (A.rem i 2) (k % 2) := ⟨by rw [u2.eq]; subst hA; exact (Int.ofNat_tmod k 2).symm⟩;have nz2 : A.nz 2 := by subst hA; exact (by decide : (2 : Int) ≠ 0)
  have hf1 := Zy hA u2 (by omega);have hu2 := Zz hA u2;have hms : M - (k + 1) < M - k := by omega
  have hr5 : A.room (A.addN nm 1) 40 := Z27 hA (by omega) (by decide);have hn1 : A.addN nm 1 = k + 1 := by rw [Z2e hA, u6]
  have e1 : A.eqN nm (A.len MR) := Ze hA hMl;have hMx : ∀ lo hi : Int, A.app MR [.agg [I 1, I (A.rem i 2), I 0, I lo, I hi]] = (insS (l ++ [(lo, hi)]) 0).map mvD := fun lo hi => by
   rw [Z33 hA, u5, Z1ck, List.map_append, u3, Nat.zero_add, rI.eq]; rfl
  have hnx : ∀ lo hi : Int, 3 <= lo -> lo <= hi -> hi <= 5 -> ∀ r ∈ l ++ [(lo, hi)], 3 <= r.1 /\ r.1 <= r.2 /\ r.2 <= 5 := fun lo hi h1 h2 h3 r hr => by
   rcases List.mem_append.1 hr with hr | hr
   ·exact u4 r hr
   ·rw [List.mem_singleton.1 hr]; exact ⟨h1, h2, h3⟩
  have hln : ∀ r, (l ++ [r]).length = k + 1 := fun r => by rw [List.length_append, u3]; rfl
  refine Z2w Z0 hA hS [] ?_;cbv;refine bmT dlt ?_;cbv;refine Z16 Z0 hA hS [0, 1, 2, 3, 4, 5, 6, 7, 8, 9, 10, 11, 12] rfl rfl fun Dk hD => ?_;cbv;refine ⟨nz2, ?_⟩;refine Zq hA hD [.b 0 0, I 3, I 4] [0] [pot x] rfl rfl rfl rfl rfl rfl rfl rfl rfl rfl rfl (by decide) ⟨rfl, trivial⟩ (Zn3 x 3 4 (by decide) _ fun n y hn3 hn4 => ⟨by cbv; repeat' (first | exact trivial | exact rfl | refine ⟨?_, ?_⟩), Zx Z0 hA hD ?_⟩);have hn4 : n <= 4 := by omega
  cbv;refine Zq hA hD [.b 0 0, I n, I 3, I 5, I 1] [0] [pot y] rfl rfl rfl rfl rfl rfl rfl rfl rfl rfl rfl (by decide) ⟨rfl, trivial⟩ (Zwu y n 3 5 1 (by omega) (by decide) _ fun lo hi z h1 h2 h3 h4 _ => ⟨by cbv; repeat' (first | exact trivial | exact rfl | refine ⟨?_, ?_⟩), Zx Z0 hA hD ?_⟩);have hMx := hMx lo hi;have hnx := hnx lo hi h1 (by omega) h4;have hln := hln (lo, hi);cbv;refine ⟨e1, Ze hA rfl, hr5, hf1, ?_⟩;refine Z8 (A.add i 1, k + 1, l ++ [(lo, hi)], A.app MR [.agg [I 1, I (A.rem i 2), I 0, I lo, I hi]], z, A.addN nm 1) [0, 1, 4] ⟨hk, hu2, hln, hnx, hMx, hn1⟩ hms ?_;exact ⟨by decide, Z9, ⟨rfl, rfl, rfl, trivial⟩, ⟨rfl, rfl, rfl, rfl, rfl, trivial⟩, rfl, rfl⟩
 ·have dlt : A.cmp .lss i mI = false := by rw [u2.eq, mIs.eq]; subst hA; simp [ar, Z25]; omega
  have hkM : k = M := by omega
  have hnmM : nm = M := by omega
  have hlM : l.length = M := by omega
  have eM : A.eqN nm (A.len MR) := Ze hA hMl;have hsh := Bn.okS_shop hok2 (by decide) (by decide);have hv2 := Bn.chkS_val hsh.chk;have hTs3 : TS.length <= 3 := by rw [hTSl]; exact hN3
  obtain ⟨FJ, hFJ⟩ : ∃ FJ, FJ = (jS f1 f2 l []).first.map Zv := ⟨_, rfl⟩;have hFJe : FB = FJ := hFB.trans hFJ.symm;have hbS : b2 <= 2 := by rw [hb2e]; omega
  have hjo : JOk ⟨3, [f1, f2], insS l 0⟩ := by
   have h : InS l [] := ⟨by omega, by omega, u4, by simp, fun x hx => by simp at hx, fun x hx => by simp at hx⟩;have := h.ok (f1 := f1) (f2 := f2);unfold jS at this;rw [List.map_nil, List.append_nil] at this;exact this
  have cPl := fun Q h => Bn.planOf x ⟨b2, TS⟩ (by show Bn.nWorks TS <= 1000; omega) (by show TS.length <= 1000; omega) TL hTL Q h;have hpl3 : ∀ p, PlanOk ⟨b2, TS⟩ p -> p.length <= 3 := fun p hp => by rw [hp.len]; exact hsum
  have hbnd : ∀ p, PlanOk ⟨b2, TS⟩ p -> ∀ y ∈ runS ⟨b2, TS⟩ mo0 p, (y.b = 0 ∨ y.b = 1) /\ 0 <= y.t /\ y.t < 3 /\ 0 <= y.bh /\ y.bh <= 1000 := fun p hp y hy => by
   have hpl : p.length <= 3 := by rw [hp.len]; exact hsum
   obtain ⟨⟨g1, g2⟩, ⟨g3, g4⟩, g5, g6⟩ := Bn.run_bnd hv2 hp.le (by omega) y hy;have g2 : y.b < b2 := g2;have g4 : y.t < (TS.length : Int) := g4;exact ⟨by omega, g3, by omega, g5, g6⟩
  have cWk := fun p (hp : PlanOk ⟨b2, TS⟩ p) PL hPL Q h => Z19g ⟨3, [f1, f2], insS l 0⟩ hjo 3 rfl FB MR hFB u5 ⟨b2, TS⟩ hsh b2 rfl p hp TL PL hTL hPL (fun y hy => by
    have := hbnd p hp y hy
    exact ⟨by omega, by show y.b < 2; omega, this.2.1, this.2.2.1⟩) (fun y hy => ⟨(hbnd p hp y hy).2.2.2.1, (hbnd p hp y hy).2.2.2.2⟩) (by show (insS l 0).length + p.length <= 10; rw [Z1cf]; have := hpl3 p hp; omega) Q h
  refine Z2w Z0 hA hS [] ?_;cbv;refine bmF dlt ?_;cbv;refine Z1a hA [2] ?_;cbv;refine ⟨eM, ?_⟩;refine Z1a hA [1] ?_;cbv;refine Z60 (a := { env := [(3, .b 0 0), (4, .cb (.agg [I b2, .sl 3 TL]) 0), (7, .cb (.agg [I 3, .sl 1 FB, .sl 5 MR]) 0), (8, I mI)], H := [pot x], nt := 270, dfs := [] }) [0] ⟨by decide, Z9, ⟨rfl, trivial⟩, ⟨rfl, rfl, rfl, rfl, trivial⟩, rfl, rfl⟩ ?_;refine Z7 ?_;cbv;refine Z16 Z0 hA hS [0, 1, 2, 3, 9, 4, 5, 6, 7, 8, 10, 11] rfl rfl fun Dk hD => ?_;cbv;refine Zq hA hD [.b 0 0, .agg [I b2, .sl 3 TL]] [0] [pot x] rfl rfl rfl rfl rfl rfl rfl rfl rfl rfl rfl (by decide) ⟨rfl, trivial⟩ (cPl _ fun p PL z hp hPL => ⟨by cbv; repeat' (first | exact trivial | exact rfl | refine ⟨?_, ?_⟩), Zx Z0 hA hD ?_⟩);cbv;refine Zq hA hD [.agg [I 3, .sl 1 FB, .sl 5 MR], .agg [I b2, .sl 3 TL], .sl 1 PL] [] [] rfl rfl rfl rfl rfl rfl rfl rfl rfl rfl rfl (by decide) trivial (cWk p hp PL hPL _ fun MX hMX => ⟨by cbv; repeat' (first | exact trivial | exact rfl | refine ⟨?_, ?_⟩), Zx Z0 hA hD ?_⟩);have n00 : A.cmp .neq 0 0 = false := by subst hA; rfl
  obtain ⟨T, hT⟩ : ∃ T, T = Z151 (runS ⟨b2, TS⟩ mo0 p) := ⟨_, rfl⟩;have hTl : T.length = p.length := by rw [hT, Bn.sortB_len]; exact Bn.run_len _ p
  have hp3 := hpl3 p hp;have hTm : ∀ y ∈ T, y ∈ runS ⟨b2, TS⟩ mo0 p := fun y hy => by rw [hT] at hy; exact (Bn.sortB_perm _).mem_iff.1 hy
  have hin : InS l T := ⟨by omega, by omega, u4, by omega, fun y hy => (hbnd p hp y (hTm y hy)).1, fun y hy => ⟨(hbnd p hp y (hTm y hy)).2.1, (hbnd p hp y (hTm y hy)).2.2.1⟩⟩;obtain ⟨X, hX⟩ : ∃ X, X = jS f1 f2 l T := ⟨_, rfl⟩;have hXo : JOk X := by rw [hX]; exact hin.ok
  have hXs : Zc X = true := by rw [hX]; exact hin.stands
  have hXf : X.first = [f1, f2] := by rw [hX]; rfl
  have hXi : X.ins = 3 := by rw [hX]; rfl
  have hXm : MX = X.moves.map mvD := by rw [hMX, hX, <- hT]; rfl
  have hXb : M = (Z6 X.moves).length := by rw [hX, Z1co, List.length_map, List.length_range, hlM]
  obtain ⟨m, hm⟩ : ∃ m, m = X.moves.length := ⟨_, rfl⟩;have hme : m = M + p.length := by rw [hm, hX]; show (insS l 0 ++ T.map outM).length = _; rw [List.length_append, Z1cf, List.length_map, hTl, hlM]
  have hMXl : MX.length = m := by rw [hXm, List.length_map, hm]
  have hFBl : FB.length = 2 := by rw [hFB]; rfl
  have hout : ∀ i a, M <= i -> X.moves[i]? = some a -> a.kind = 2 := fun i a hi ha => by
   rw [hX] at ha;have ha : (insS l 0 ++ T.map outM)[i]? = some a := ha;rw [List.getElem?_append_right (by rw [Z1cf]; omega), List.getElem?_map] at ha
   cases e : T[i - (insS l 0).length]? with
   | none => rw [e] at ha; cases ha
   | some y => rw [e] at ha; cases ha; rfl
  have hXM : MX = X.moves.map mvD := hXm;have hMm : NLe M m := ⟨by omega⟩;have hm7 : NLe m 7 := ⟨by omega⟩;clear hMX cWk cPl hbnd hTm;cbv;refine bmF n00 ?_;cbv;refine Z4 hS [.agg [I 3, .sl 1 FB, .sl 5 MX]] [] [] rfl rfl rfl rfl rfl rfl rfl rfl (by decide) trivial (Z1cl 3 FB MX 2 m hFBl hMXl (by decide) (by omega) _ ?_);refine Z3 Z0 hA hS ?_;cbv;refine Zb hS ?_;refine Za (α := Int × Nat × List Mv × List D × Int) (fun q => { env := [(3, .b 0 0), (8, I mI), (10, .cb (.agg [I 3, .sl 1 FB, .sl 5 MX]) 0), (12, .b 1 0), (13, I q.1)], H := [pot q.2.2.2.2, .box (.agg [I 3, .sl 1 FB, .o 2 5 m]), .els 5 q.2.2.2.1], nt := 270, dfs := [] })
   (fun q => m - q.2.1) (fun q => M <= q.2.1 /\ q.2.1 <= m /\ IsI q.1 q.2.1 /\ LostJ X q.2.2.1 /\ q.2.2.2.1 = q.2.2.1.map mvD) (mI, M, X.moves, MX, z) ⟨Nat.le_refl _, hMm.le, mIs, LostJ.refl X, hXM⟩ ?_ ?_
  ·refine Z1a hA [2] ?_;cbv
   repeat (first | refine ⟨eFB, ?_⟩)
   refine Z1a hA [1] ?_;cbv;exact Zf [0, 4, 3] ⟨by decide, Z9, ⟨rfl, rfl, rfl, trivial⟩, ⟨rfl, rfl, rfl, rfl, rfl, trivial⟩, rfl, rfl⟩
  rintro ⟨i2, k2, ns, NL, y⟩ ⟨w0, w1, w2, w3, w4⟩;dsimp only at w0 w1 w2 w3 w4;have hnl : ns.length = m := by rw [w3.len, hm]
  have hNl : NL.length = m := by rw [w4, List.length_map, hnl]
  by_cases hk2 : k2 < m
  ·have dl2 : A.cmp .lss i2 (A.oi m) = true := by rw [w2.eq, xoi hA]; subst hA; simp [ar, Z25]; omega
   obtain ⟨a, ha⟩ : ∃ a, ns[k2]? = some a := ⟨_, List.getElem?_eq_getElem (by omega)⟩;obtain ⟨c, hc⟩ : ∃ c, X.moves[k2]? = some c := ⟨_, List.getElem?_eq_getElem (by omega)⟩;have hka : a.kind = 2 := by rw [(w3.at_ k2 c a hc ha).kind]; exact hout k2 c w0 hc
   have hst := w3.set ha hka;obtain ⟨ak, ab, ai, al, ah⟩ := a;have gN := Z18 hA w2 (show NL[k2]? = some (.agg [I ak, I ab, I ai, I al, I ah]) by rw [w4, List.getElem?_map, ha]; rfl);have iN : A.inb i2 m := Z4o hA w2 hk2;have fi := Zy hA w2 (by omega);have hw2 := Zz hA w2;have hms2 : m - (k2 + 1) < m - k2 := by omega
   have w0' : M <= k2 + 1 := by omega
   have hNL2 : A.set NL (A.tn i2) (.agg [I ak, I ab, I (-1), I al, I ah]) = (ns.set k2 ⟨ak, ab, -1, al, ah⟩).map mvD := by rw [Z7n hA w2 rfl, w4, List.map_set]; rfl
   refine Z2w Z0 hA hS [] ?_;cbv;refine bmT dl2 ?_;cbv;refine Z4 hS [.b 0 0, I 1, I 2] [0] [pot y] rfl rfl rfl rfl rfl rfl rfl rfl (by decide) ⟨rfl, trivial⟩ (Zvc y 1 2 (by omega) _ fun g y2 => ?_);refine Z3 Z0 hA hS ?_;cbv
   cases g
   ·cbv;refine ⟨fi, ?_⟩;refine Z8 (A.add i2 1, k2 + 1, ns, NL, y2) [0, 1, 2] ⟨w0', hk2, hw2, w3, w4⟩ hms2 ?_;exact ⟨by decide, Z9, ⟨rfl, rfl, rfl, trivial⟩, ⟨rfl, rfl, rfl, rfl, rfl, trivial⟩, rfl, rfl⟩
   ·cbv;refine ⟨iN, ⟨⟨_, gN, ?_⟩⟩⟩;cbv;refine ⟨fi, ?_⟩;refine Z8 (A.add i2 1, k2 + 1, ns.set k2 ⟨ak, ab, -1, al, ah⟩, A.set NL (A.tn i2) (.agg [I ak, I ab, I (-1), I al, I ah]), y2) [0, 1, 2] ⟨w0', hk2, hw2, hst, hNL2⟩ hms2 ?_;exact ⟨by decide, Z9, ⟨rfl, rfl, rfl, trivial⟩, ⟨rfl, rfl, rfl, rfl, rfl, trivial⟩, rfl, rfl⟩
  ·have dl2 : A.cmp .lss i2 (A.oi m) = false := by rw [w2.eq, xoi hA]; subst hA; simp [ar, Z25]; omega
   have eN : A.eqN m (A.len NL) := Ze hA hNl;obtain ⟨XL, hXL⟩ : ∃ XL : Jn, XL = ⟨X.ins, X.first, ns⟩ := ⟨_, rfl⟩;have hLo : JOk XL := by rw [hXL]; exact w3.ok hXo
   have hsub : Sub X XL := by rw [hXL]; exact w3.sub hXo
   have hLs : Zc XL = true := hsub.stands hXs;have hLb : M = (Z6 XL.moves).length := by rw [hXL]; show M = (Z6 ns).length; rw [w3.bins hXo]; exact hXb
   have hLl : Z6g XL = Z6g X := by rw [hXL]; exact w3.left hXo
   have hLc : ∀ {g : List Nat}, (∀ b ∈ g, b < 4) -> ∀ i, Zkr X g i = true -> Zkr XL g i = true := fun {g} hg i hc => by rw [hXL]; exact w3.call hXo hXs hg i hc
   have hLi : XL.ins = 3 := by rw [hXL]; exact hXi
   have hLf : XL.first = [f1, f2] := by rw [hXL]; exact hXf
   have mdX : MdJ X 3 3 2 m FB MX := ⟨hXo, hXs, hXi, ⟨rfl⟩, by rw [hXf]; exact hFB, hXm, by rw [hXf]; rfl, hm.symm⟩;have mdL : MdJ XL 3 3 2 m FB NL := ⟨hLo, hLs, hLi, ⟨rfl⟩, by rw [hLf]; exact hFB, by rw [hXL]; exact w4, by rw [hLf]; rfl, by rw [hXL]; exact hnl⟩;have hholds : ∀ (J : Jn), J.ins = 3 -> M = (Z6 J.moves).length -> ∀ n, n < 3 -> ((holdsJ J).map fun l => D.sl 1 (l.map I))[n]? = some (.sl 1 ((List.range M).map fun b => I (Z2i (Z4d J (Z2v n b))))) := fun J hJ hb n hn => by
    unfold holdsJ;rw [hJ, <- hb, List.getElem?_map, List.getElem?_map];show (Option.map _ (Option.map _ (List.range 3)[n]?)) = _;rw [List.getElem?_range hn];show some (D.sl 1 (((List.range M).map fun b => Z2i (Z4d J (Z2v n b))).map I)) = _;rw [List.map_map]; rfl
   have hhl : ∀ J : Jn, J.ins = 3 -> ((holdsJ J).map fun l => D.sl 1 (l.map I)).length = 3 := fun J hJ => by
    rw [List.length_map]; unfold holdsJ; rw [List.length_map, List.length_range, hJ]; rfl
   have hLn : (Z6g X).length = 2 := by unfold Z6g; rw [List.length_map, List.length_range, hXf]; rfl
   refine Z2w Z0 hA hS [] ?_;cbv;refine bmF dl2 ?_;cbv;refine Z1a hA [2] ?_;cbv
   repeat (refine ⟨eN, ?_⟩)
   refine Z1a hA [1] ?_;cbv;refine Z60 (a := { env := [(3, .b 0 0), (8, I mI), (10, .cb (.agg [I 3, .sl 1 FB, .sl 5 MX]) 0), (12, .cb (.agg [I 3, .sl 1 FB, .sl 5 NL]) 0)], H := [pot y], nt := 270, dfs := [] }) [0] ⟨by decide, Z9, ⟨rfl, trivial⟩, ⟨rfl, rfl, rfl, rfl, trivial⟩, rfl, rfl⟩ ?_;refine Z7 ?_;cbv;refine Z4 hS [.b 0 0, I mI] [0] [pot y] rfl rfl rfl rfl rfl rfl rfl rfl (by decide) ⟨rfl, trivial⟩ (Z107 y mI M mIs (by omega) _ fun g GL y3 hAsc hGL => ?_);have hg4 : ∀ b ∈ g, b < 4 := fun b hb => by have := hAsc.lt b hb; omega
   refine Z3 Z0 hA hS ?_;cbv;refine Z4 hS [.agg [I 3, .sl 1 FB, .sl 5 MX]] [] [] rfl rfl rfl rfl rfl rfl rfl rfl (by decide) trivial (mdX.holds _ fun HA hHA => ?_);refine Z3 Z0 hA hS ?_;cbv;refine Z4 hS [.agg [I 3, .sl 1 FB, .sl 5 NL]] [] [] rfl rfl rfl rfl rfl rfl rfl rfl (by decide) trivial (mdL.holds _ fun HB hHB => ?_);refine Z3 Z0 hA hS ?_;cbv;refine Z4 hS [.agg [I 3, .sl 1 FB, .sl 5 MX], .sl 1 GL] [] [] rfl rfl rfl rfl rfl rfl rfl rfl (by decide) trivial (mdX.recall hXb hAsc hGL _ fun RC hRC => ?_);refine Z3 Z0 hA hS ?_;cbv;refine Z4 hS [.agg [I 3, .sl 1 FB, .sl 5 NL], .sl 1 GL] [] [] rfl rfl rfl rfl rfl rfl rfl rfl (by decide) trivial (mdL.recall hLb hAsc hGL _ fun RD hRD => ?_);refine Z3 Z0 hA hS ?_;cbv;refine Z4 hS [.agg [I 3, .sl 1 FB, .sl 5 MX]] [] [] rfl rfl rfl rfl rfl rfl rfl rfl (by decide) trivial (mdX.left _ fun UL hUL => ?_);refine Z3 Z0 hA hS ?_;cbv;refine Z4 hS [.agg [I 3, .sl 1 FB, .sl 5 NL]] [] [] rfl rfl rfl rfl rfl rfl rfl rfl (by decide) trivial (mdL.left _ fun VL hVL => ?_);rw [hLl] at hVL;have hHAl : HA.length = 3 := by rw [hHA]; exact hhl X hXi
   have hHBl : HB.length = 3 := by rw [hHB]; exact hhl XL hLi
   have c1 : A.cmp .neq (A.oi (A.len HA)) 3 = false := by rw [yoiL hA hHAl]; subst hA; rfl
   have c2 : A.cmp .neq (A.oi (A.len HB)) 3 = false := by rw [yoiL hA hHBl]; subst hA; rfl
   have bnt : A.bnot true = false := by subst hA; rfl
   refine Z3 Z0 hA hS ?_;cbv;refine bmF n00 ?_;cbv;refine bmF n00 ?_;cbv;refine bmF n00 ?_;cbv;refine bmF n00 ?_;cbv;refine bmF n00 ?_;cbv;refine bmF n00 ?_;cbv;refine bmF c1 ?_;cbv;refine bmF c2 ?_;cbv;have hSR : UL = (Z6g X).map rgD := hUL;refine Zg hS (b := false) rfl rfl rfl rfl rfl rfl rfl rfl (fun _ => ⟨_, _, [.sl 2 UL, .sl 2 VL], [], [], rfl, rfl, rfl, by decide, trivial, Za2 (Z6g X) (Z6g X) UL VL hUL hVL (lim (by rw [hLn]; decide)) true (decide_eq_true rfl).symm _ ?_⟩) (fun h => absurd rfl h);refine Z3 Z0 hA hS ?_;cbv;refine bmF bnt ?_;cbv;have hRCl : RC.length = (recallJ X g).length := by rw [hRC, List.length_map]
   have hrl : ∀ J : Jn, J.ins = 3 -> (recallJ J g).length <= 3 := fun J hJ => by
    rw [Z1az, List.length_map];refine Nat.le_trans (List.length_filter_le _ _) ?_;rw [List.length_range, hJ]; decide
   have hrX := hrl X hXi;have hrL := hrl XL hLi;have hmemL : ∀ v, v ∈ recallJ X g -> v ∈ recallJ XL g := fun v hv => by
    rw [Z1az] at hv ⊢;obtain ⟨n, hn, rfl⟩ := List.mem_map.1 hv;obtain ⟨h1, h2⟩ := List.mem_filter.1 hn;refine List.mem_map.2 ⟨n, List.mem_filter.2 ⟨?_, hLc hg4 n h2⟩, rfl⟩;rw [hLi]; rw [hXi] at h1; exact h1
   have hA3 : ∀ n, n < 3 -> HA[n]? = some (.sl 1 ((List.range M).map fun b => I (Z2i (Z4d X (Z2v n b))))) := fun n hn => by rw [hHA]; exact hholds X hXi hXb n hn
   have hB3 : ∀ n, n < 3 -> HB[n]? = some (.sl 1 ((List.range M).map fun b => I (Z2i (Z4d XL (Z2v n b))))) := fun n hn => by rw [hHB]; exact hholds XL hLi hLb n hn
   have hvd : ∀ n b : Nat, Z2i (Z4d XL (Z2v n b)) ≠ 3 -> Z2i (Z4d X (Z2v n b)) = Z2i (Z4d XL (Z2v n b)) := fun n b h => hsub.verd hXs n b h;clear hHA hHB hholds hUL hVL hSR w3 w4 hout hhl;refine Zb hS ?_;refine Za (α := Int × Nat) (fun q => { env := [(8, I mI), (15, .sl 1 HA), (16, .sl 1 HB), (18, .sl 1 RC), (20, .sl 1 RD), (26, I q.1)], H := [], nt := 270, dfs := [] })
    (fun q => (recallJ X g).length - q.2) (fun q => q.2 <= (recallJ X g).length /\ IsI q.1 q.2) (0, 0) ⟨Nat.zero_le _, ⟨rfl⟩⟩ ?_ ?_
   ·exact Zf [] ⟨by decide, Z9, trivial, ⟨rfl, rfl, rfl, rfl, rfl, rfl, trivial⟩, rfl, rfl⟩
   rintro ⟨i3, k3⟩ ⟨v1, v2⟩;dsimp only at v1 v2
   by_cases hk3 : k3 < (recallJ X g).length
   ·have dl3 : A.cmp .lss i3 (A.oi (A.len RC)) = true := by rw [yoiL hA hRCl, v2.eq]; subst hA; simp [ar, Z25]; omega
    obtain ⟨v, hv⟩ : ∃ v, (recallJ X g)[k3]? = some v := ⟨_, List.getElem?_eq_getElem hk3⟩;have hvL := hmemL v (List.mem_of_getElem? hv);have gC := Z18 hA v2 (show RC[k3]? = some (I v) by rw [hRC, List.getElem?_map, hv]; rfl);have iC := Z1b hA hRCl v2 hk3;have f3 := Zy hA v2 (by omega);have hv2' := Zz hA v2;have hms3 : (recallJ X g).length - (k3 + 1) < (recallJ X g).length - k3 := by omega
    refine Z2w Z0 hA hS [] ?_;cbv;refine bmT dl3 ?_;cbv;refine ⟨iC, ⟨_, gC, ?_⟩⟩;cbv;refine Z4 hS [.sl 1 RD, I v] [] [] rfl rfl rfl rfl rfl rfl rfl rfl (by decide) trivial (Z1cu (recallJ XL g) (by omega) RD hRD v _ fun r hr => ?_);have hr0 : 0 <= r := hr.2 hvL;have dr : A.cmp .lss r 0 = false := by subst hA; simp [ar, Z25]; omega
    refine Z3 Z0 hA hS ?_;cbv;refine bmF dr ?_;cbv;refine ⟨f3, ?_⟩;refine Z8 (A.add i3 1, k3 + 1) [] ⟨hk3, hv2'⟩ hms3 ?_;exact ⟨by decide, Z9, trivial, ⟨rfl, rfl, rfl, rfl, rfl, rfl, trivial⟩, rfl, rfl⟩
   have dl3 : A.cmp .lss i3 (A.oi (A.len RC)) = false := by rw [yoiL hA hRCl, v2.eq]; subst hA; simp [ar, Z25]; omega
   refine Z2w Z0 hA hS [] ?_;cbv;refine bmF dl3 ?_;cbv;refine Z7 ?_;cbv;refine Zb hS ?_;refine Za (α := Int × Nat) (fun q => { env := [(8, I mI), (15, .sl 1 HA), (16, .sl 1 HB), (27, I q.1)], H := [], nt := 270, dfs := [] })
    (fun q => 3 - q.2) (fun q => q.2 <= 3 /\ IsI q.1 q.2) (0, 0) ⟨Nat.zero_le _, ⟨rfl⟩⟩ ?_ ?_
   ·exact Zf [] ⟨by decide, Z9, trivial, ⟨rfl, rfl, rfl, rfl, trivial⟩, rfl, rfl⟩
   clear dl3 v1 v2;rintro ⟨nI, n⟩ ⟨z1, z2⟩;dsimp only at z1 z2
   by_cases hn3 : n < 3
   ·have dn : A.cmp .lss nI 3 = true := by rw [z2.eq]; subst hA; simp [ar, Z25]; omega
    obtain ⟨rA, hrA⟩ : ∃ rA, rA = (List.range M).map fun b => I (Z2i (Z4d X (Z2v n b))) := ⟨_, rfl⟩;obtain ⟨rB, hrB⟩ : ∃ rB, rB = (List.range M).map fun b => I (Z2i (Z4d XL (Z2v n b))) := ⟨_, rfl⟩;have hrAl : rA.length = M := by rw [hrA, List.length_map, List.length_range]
    have hrBl : rB.length = M := by rw [hrB, List.length_map, List.length_range]
    have gA := Z18 hA z2 (show HA[n]? = some (.sl 1 rA) by rw [hrA]; exact hA3 n hn3);have gB := Z18 hA z2 (show HB[n]? = some (.sl 1 rB) by rw [hrB]; exact hB3 n hn3);have iA := Z1b hA hHAl z2 hn3;have iB := Z1b hA hHBl z2 hn3;have eA : A.cmp .neq (A.oi (A.len rA)) mI = false := by rw [yoiL hA hrAl, mIs.eq]; subst hA; simp [ar, Z25]
    have eB : A.cmp .neq (A.oi (A.len rB)) mI = false := by rw [yoiL hA hrBl, mIs.eq]; subst hA; simp [ar, Z25]
    have fn := Zy hA z2 (by omega);have hzn := Zz hA z2;have hms5 : 3 - (n + 1) < 3 - n := by omega
    refine Z2w Z0 hA hS [] ?_;cbv;refine bmT dn ?_;cbv;refine Zb hS ?_;refine Za (α := Int × Nat) (fun q => { env := [(8, I mI), (15, .sl 1 HA), (16, .sl 1 HB), (27, I nI), (28, I q.1)], H := [], nt := 270, dfs := [] })
     (fun q => M - q.2) (fun q => q.2 <= M /\ IsI q.1 q.2) (0, 0) ⟨Nat.zero_le _, ⟨rfl⟩⟩ ?_ ?_
    ·exact Zf [] ⟨by decide, Z9, trivial, ⟨rfl, rfl, rfl, rfl, rfl, trivial⟩, rfl, rfl⟩
    rintro ⟨qI, q⟩ ⟨q1, q2⟩;dsimp only at q1 q2
    by_cases hqM : q < M
    ·have dq : A.cmp .lss qI mI = true := by rw [q2.eq, mIs.eq]; subst hA; simp [ar, Z25]; omega
     obtain ⟨va, hva⟩ : ∃ va, va = Z2i (Z4d X (Z2v n q)) := ⟨_, rfl⟩;obtain ⟨vb, hvb⟩ : ∃ vb, vb = Z2i (Z4d XL (Z2v n q)) := ⟨_, rfl⟩;have hv3 : vb ≠ 3 -> va = vb := fun h => by rw [hva, hvb]; exact hvd n q (by rw [<- hvb]; exact h)
     have gAq := Z18 hA q2 (show rA[q]? = some (I va) by rw [hrA, List.getElem?_map, List.getElem?_range hqM, hva]; rfl);have gBq := Z18 hA q2 (show rB[q]? = some (I vb) by rw [hrB, List.getElem?_map, List.getElem?_range hqM, hvb]; rfl);have iAq := Z1b hA hrAl q2 hqM;have iBq := Z1b hA hrBl q2 hqM;have fq := Zy hA q2 (by omega);have hz2 := Zz hA q2;have hms6 : M - (q + 1) < M - q := by omega
     have hneq : A.cmp .neq vb 3 = true -> A.cmp .neq va vb = false := fun h => by
      have hb : vb ≠ 3 := xne hA h;rw [hv3 hb]; subst hA; simp [ar, Z25]
     refine Z2w Z0 hA hS [] ?_;cbv;refine bmT dq ?_;cbv;refine Z16 Z0 hA hS [0, 1, 2, 3, 4, 5, 6, 7, 8, 9, 10, 11, 12, 13, 14, 15, 16, 17, 18, 19, 20, 21, 22, 23, 24, 25, 26, 27, 28, 29, 30, 31, 32, 33, 34, 35, 36, 37, 38, 39, 40, 41, 42] rfl rfl fun Dk4 hD4 => ?_;cbv;refine ⟨iA, ⟨_, gA, ?_⟩⟩;cbv;refine bmF eA ?_;cbv;refine ⟨iB, ⟨_, gB, ?_⟩⟩;cbv;refine bmF eB ?_;cbv;refine ⟨iB, ⟨_, gB, ?_⟩⟩;cbv;refine ⟨iBq, ⟨_, gBq, ?_⟩⟩;cbv;refine bm (fun c => ?_) (fun c => ?_)
     ·have hf := hneq c;cbv;refine ⟨iA, ⟨_, gA, ?_⟩⟩;cbv;refine ⟨iAq, ⟨_, gAq, ?_⟩⟩;cbv;refine ⟨iB, ⟨_, gB, ?_⟩⟩;cbv;refine ⟨iBq, ⟨_, gBq, ?_⟩⟩;cbv;refine bmF hf ?_;cbv;refine ⟨fq, ?_⟩;refine Z8 (A.add qI 1, q + 1) [] ⟨hqM, hz2⟩ hms6 ?_;exact ⟨by decide, Z9, trivial, ⟨rfl, rfl, rfl, rfl, rfl, trivial⟩, rfl, rfl⟩
     ·cbv;refine ⟨fq, ?_⟩;refine Z8 (A.add qI 1, q + 1) [] ⟨hqM, hz2⟩ hms6 ?_;exact ⟨by decide, Z9, trivial, ⟨rfl, rfl, rfl, rfl, rfl, trivial⟩, rfl, rfl⟩
    ·have dq : A.cmp .lss qI mI = false := by rw [q2.eq, mIs.eq]; subst hA; simp [ar, Z25]; omega
     refine Z2w Z0 hA hS [] ?_;cbv;refine bmF dq ?_;cbv;refine Z7 ?_;cbv;refine ⟨fn, ?_⟩;refine Z8 (A.add nI 1, n + 1) [] ⟨hn3, hzn⟩ hms5 ?_;exact ⟨by decide, Z9, trivial, ⟨rfl, rfl, rfl, rfl, trivial⟩, rfl, rfl⟩
   ·have dn : A.cmp .lss nI 3 = false := by rw [z2.eq]; subst hA; simp [ar, Z25]; omega
    refine Z2w Z0 hA hS [] ?_;cbv;refine bmF dn ?_;cbv;refine Z7 ?_;cbv;refine Z4 hS [] [] [] rfl rfl rfl rfl rfl rfl rfl rfl (by decide) trivial (Z1b9 _ ?_);refine Z3 Z0 hA hS ?_;cbv;exact Z2 [] (by decide) Z9 (H' := []) (d' := .v (.bool true)) trivial rfl (Z1 hq)
end Go.Proofs.YtegjabljeepbdaaGreatDoor

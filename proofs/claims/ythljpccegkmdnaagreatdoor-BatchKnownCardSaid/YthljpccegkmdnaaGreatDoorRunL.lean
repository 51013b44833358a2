/- Part RunL of the proofs about the benches of the accordion maker: see the last text of the claim for what is proved. -/
import Derived.Test.YthljpccegkmdnaaGreatDoorRunK
import Derived.Test.YthljpccegkmdnaaGreatDoorRunH
import Derived.Test.YthljpccegkmdnaaGreatDoorRunJ
set_option linter.unusedVariables false
set_option linter.unusedSimpArgs false
set_option linter.unnecessarySimpa false
set_option linter.constructorNameAsVariable false

namespace Go.Proofs.YthljpccegkmdnaaGreatDoor.Bn
open Go Go.Abs Go.Proofs
structure PlanOk (s : Sh) (p : List Nat) : Prop where
 lt : ∀ i ∈ p, i < s.tasks.length
 cnt : ∀ i, i < s.tasks.length -> p.count i = (s.tasks.getD i default).works.length
 len : p.length = Z1cw s.tasks
def cntD (s : Sh) (p : List Nat) (k : Nat) : List D := (List.range s.tasks.length).map fun i => I ((p.take k).count i : Nat)
theorem Z158 {s : Sh} {p : List Nat} {k i : Nat} (h : i < s.tasks.length) : (cntD s p k)[i]? = some (I ((p.take k).count i : Nat)) := by
 simp [cntD, h]
theorem Z16l {s : Sh} {p : List Nat} {k i : Nat} (hk : p[k]? = some i) (h : i < s.tasks.length) : cntD s p (k + 1) = (cntD s p k).set i (I (((p.take k).count i + 1 : Nat) : Int)) := by
 refine List.ext_getElem? fun j => ?_;rw [List.getElem?_set]
 by_cases hj : j < s.tasks.length
 ·rw [Z158 hj, Z154 hk j]
  by_cases e : i = j
  ·subst e; rw [if_pos rfl, if_pos rfl, if_pos (by simpa [cntD] using hj)]
  ·rw [if_neg (fun h => e h.symm), if_neg e, Z158 hj]; rfl
 ·rw [if_neg (by omega), List.getElem?_eq_none (by simp [cntD]; omega), List.getElem?_eq_none (by simp [cntD]; omega)]
set_option maxRecDepth 20000 in
set_option maxHeartbeats 2000000 in
theorem Z18e (s : Sh) (h4 : s.tasks.length <= 4) (hw : ∀ t ∈ s.tasks, t.works.length <= 1152921504606846976) (p : List Nat) (hp : PlanOk s p) (TL PL : List D) (hT : TL = s.tasks.map taskD) (hP : PL = p.map (fun i => I (i : Nat))) (Q) (hq : Q (RA.ret (.v .nilIface)) []) :
  CallA Tryz.prog 152 [.agg [I s.benches, .sl 3 TL], .sl 1 PL] [] Q := by
 obtain ⟨A, hA⟩ : ∃ A, A = ar := ⟨_, rfl⟩;obtain ⟨N, hN⟩ : ∃ N, N = s.tasks.length := ⟨_, rfl⟩;have hTl : TL.length = N := by rw [hT, hN]; simp
 have hPl : PL.length = p.length := by rw [hP]; simp
 have hpb : p.length <= 4 * 1152921504606846976 := by
  rw [hp.len];have := Z15c hw s.tasks.length;rw [List.take_length] at this;exact Nat.le_trans this (Nat.mul_le_mul_right _ h4)
 have hr0 : 0 <= ((TL.length : Nat) : Int) := by omega
 have hr1 : TL.length * 8 <= 140737488355328 /\ TL.length <= 4611686018427387904 := by omega
 refine Z5 Z0 hA Tryz.func152 rfl rfl rfl rfl rfl fun S hS => ?_;cbv;refine ⟨by subst hA; exact hr0, by subst hA; exact hr1, ?_⟩;refine Zb hS ?_;refine Za (α := Int × Nat × List D) (fun q => { env := [(1, .sl 1 PL), (2, .b 0 0), (5, .o 1 1 N), (12, .sl 1 PL), (13, I (A.oi (A.len PL))), (14, I q.1)], H := [.box (.agg [I s.benches, .sl 3 TL]), .els 1 q.2.2], nt := 55, dfs := [] })
  (fun q => p.length - q.2.1) (fun q => q.2.1 <= p.length /\ IsI q.1 q.2.1 /\ q.2.2 = cntD s p q.2.1) (0, 0, List.replicate TL.length (I 0)) ⟨Nat.zero_le _, ⟨rfl⟩, ?_⟩ ?_ ?_
 ·exact List.ext_getElem? fun j => by
   by_cases hj : j < s.tasks.length
   ·rw [Z158 hj, List.getElem?_replicate, if_pos (by omega)]; rfl
   ·rw [List.getElem?_eq_none (by simp; omega), List.getElem?_eq_none (by simp [cntD]; omega)]
 ·exact Zf [0, 1] ⟨by decide, Z9, ⟨rfl, by subst hA; rfl, trivial⟩, ⟨rfl, rfl, by subst hA; rw [<- hTl]; rfl, rfl, rfl, rfl, trivial⟩, rfl, rfl⟩
 rintro ⟨i, k, L⟩ ⟨u1, u2, u3⟩;dsimp only at u1 u2 u3;have hLl : L.length = N := by rw [u3, hN]; simp [cntD]
 refine Zi Z0 hA hS ?_;cbv
 split
 ·rename_i c
  have hk : k < p.length := Z31 hA hPl u2 c;obtain ⟨x, hx⟩ : ∃ x, x = p[k] := ⟨_, rfl⟩;have hpk : p[k]? = some x := by rw [hx]; exact List.getElem?_eq_getElem hk
  have hxl : x < s.tasks.length := hp.lt x (List.mem_of_getElem? hpk);obtain ⟨xI, hxI⟩ : ∃ y, IsI y x := ⟨_, ⟨rfl⟩⟩;have hPk : PL[k]? = some (I xI) := by rw [hP, hxI.eq]; simp [hpk]
  obtain ⟨b, hb⟩ : ∃ b, b = decide (0 <= xI /\ xI <= A.sub (A.oi (A.len TL)) 1) := ⟨_, rfl⟩;have hb1 : b = true := by rw [hb, Z24 hA, yoiL hA hTl]; have := hxI.eq; exact decide_eq_true (by omega)
  have hf : A.fits .i64 (A.sub (A.oi (A.len TL)) 1) := Z14 hA (by rw [Z24 hA, yoiL hA hTl]) (by omega);obtain ⟨cI, hcI⟩ : ∃ y, IsI y ((p.take k).count x) := ⟨_, ⟨rfl⟩⟩;have hcl : (p.take k).count x <= k := Nat.le_trans List.count_le_length (by simp; omega);have hLx : L[x]? = some (I cI) := by rw [u3, hcI.eq]; exact Z158 hxl
  obtain ⟨t, ht⟩ : ∃ t, t = s.tasks[x] := ⟨_, rfl⟩;have htx : s.tasks[x]? = some t := by rw [ht]; exact List.getElem?_eq_getElem hxl
  obtain ⟨WL, hWL⟩ : ∃ WL, WL = t.works.map Z14x := ⟨_, rfl⟩;have hWl : WL.length = t.works.length := by rw [hWL]; simp
  have hTk : TL[x]? = some (.agg [I t.ready, I t.due, .sl 3 WL]) := by rw [hT]; simp [htx, hWL, taskD]
  have hset : L.set x (I (A.add cI 1)) = cntD s p (k + 1) := by
   rw [Z16l hpk hxl, <- u3, (Zz hA hcI).eq]
  have hcw : (p.take k).count x + 1 <= t.works.length := by
   have h1 := Z154 hpk x;rw [if_pos rfl] at h1;have h2 : (p.take (k + 1)).count x <= p.count x := (List.take_sublist _ _).count_le x;have h3 := hp.cnt x hxl;rw [List.getD_eq_getElem?_getD, htx] at h3;simp only [Option.getD_some] at h3;omega
  have hst := Z7n hA hxI hset.symm;cbv;refine ⟨Z1b hA hPl u2 hk, ⟨_, Z18 hA u2 hPk, ?_⟩⟩;cbv;refine ⟨hf, ?_⟩;refine Z4 hS [I xI, I 0, I (A.sub (A.oi (A.len TL)) 1)] [] [] rfl rfl rfl rfl rfl rfl rfl rfl (by decide) trivial (bWith _ _ _ b hb _ ?_);refine Z3 Z0 hA hS ?_;cbv
  split
  ·rename_i c2
   exact absurd (xnot hA c2) (by rw [hb1]; decide)
  cbv;refine ⟨Z4o hA hxI (by omega), ⟨_, Z18 hA hxI hLx, ?_⟩⟩;cbv;refine ⟨Zy hA hcI (by omega), Z4o hA hxI (by omega), ⟨_, Z18 hA hxI hLx, ?_⟩⟩;cbv;refine Z16 Z0 hA hS [0, 1, 2, 3, 4, 5, 6, 7, 8, 9, 10, 11] rfl rfl fun Dk hD => ?_;cbv;refine ⟨Z4o hA hxI (by omega), ⟨_, Z15m hA hxI hLl (by omega), ?_⟩⟩;cbv;refine ⟨Z1b hA hTl hxI (by omega), ⟨_, Z18 hA hxI hTk, ?_⟩⟩;cbv
  split
  ·rename_i c3
   have e3 : A.add cI 1 > A.oi (A.len WL) := xgt hA c3;rw [yoiL hA hWl, (Zz hA hcI).eq] at e3;omega
  cbv;refine ⟨Zy hA u2 (by omega), ?_⟩;refine Z8 (A.add i 1, k + 1, A.set L (A.tn xI) (I (A.add cI 1))) [0, 1] ⟨hk, Zz hA u2, hst⟩ (by simp only; omega) ?_;exact ⟨by decide, Z9, ⟨rfl, rfl, trivial⟩, ⟨rfl, rfl, rfl, rfl, rfl, rfl, trivial⟩, rfl, rfl⟩
 ·rename_i c
  have hk : p.length <= k := Z21 hA hPl u2 c;obtain ⟨nw, hnw⟩ : ∃ x, IsI x (Z1cw s.tasks) := ⟨_, ⟨rfl⟩⟩;have hnl : A.cmp .lss (A.oi (A.len PL)) nw = false := by
   have e : (p.length : Int) = nw := by rw [hnw.eq, hp.len]
   rw [yoiL hA hPl, e]; subst hA; simp [ar, Z25]
  cbv;refine Z7 ?_;cbv;refine Z4 hS [.agg [I s.benches, .sl 3 TL]] [] [] rfl rfl rfl rfl rfl rfl rfl rfl (by decide) trivial (Z18d s TL hT h4 hw nw hnw _ ?_);refine Z3 Z0 hA hS ?_;cbv
  split
  ·rename_i c5
   exact absurd (hnl.symm.trans c5) (by decide)
  cbv;exact Z2 [] (by decide) Z9 (H' := []) (d' := .v .nilIface) trivial rfl (Z1 hq)
end Go.Proofs.YthljpccegkmdnaaGreatDoor.Bn

namespace Go.Proofs.YthljpccegkmdnaaGreatDoor.Bn
open Go Go.Abs Go.Proofs
section
variable {s : Sh} {p : List Nat}
def mo0 : Nat -> Int := fun _ => 0
def ckT (s : Sh) (p : List Nat) (sd : Bool) (n : Nat) : Ck := ckAt sd s mo0 (Z14y s) 0 p n
def begT (s : Sh) (p : List Nat) (i n : Nat) : Int := (Z14w true s (ckT s p true n) i 0).bg
structure SlF (s : Sh) (p : List Nat) (n : Nat) (x : Sl) : Prop where
 i : p[n]? = some x.t.toNat
 t : x.t = (x.t.toNat : Int)
 k : x.k = ((p.take n).count x.t.toNat : Nat)
 b : x.b = (Z150 s x.t.toNat x.k.toNat).b
 g : x.bh = begT s p x.t.toNat n
theorem run_len (s : Sh) (p : List Nat) : (runS s mo0 p).length = p.length := by simp [runS]
structure DoneF (s : Sh) (p : List Nat) (σ : List Sl) (i : Nat) (x : Sl) (c : Nat) : Prop where
 t : x.t = (c : Int)
 lt : c < s.tasks.length
 took : x.k = ((σ.take i).countP (fun y => decide (y.t = (c : Int))) : Nat)
 more : (σ.take i).countP (fun y => decide (y.t = (c : Int))) < (s.tasks.getD c default).works.length
 b : x.b = (Z150 s c ((σ.take i).countP (fun y => decide (y.t = (c : Int))))).b
end
end Go.Proofs.YthljpccegkmdnaaGreatDoor.Bn

namespace Go.Proofs.YthljpccegkmdnaaGreatDoor.Bn
open Go Go.Abs Go.Proofs
theorem Z1ad (ty : TypeId) (x : Blk) (Q) (hq : Q (RA.ret (.v (.bool false))) [x]) : CallA Tryz.prog 151 [.v .nilIface, .ifc ty (.b 0 0)] [x] Q := by
 obtain ⟨A, hA⟩ : ∃ A, A = ar := ⟨_, rfl⟩;refine Z5 Z0 hA Tryz.func151 rfl rfl rfl rfl rfl fun S hS => ?_;cbv;exact Z1 hq
structure ShopOk (s : Sh) : Prop where
 chk : chkS s = 0
 len : s.tasks.length <= 4
 fin : Fin s
set_option maxRecDepth 20000 in
set_option maxHeartbeats 2000000 in
theorem Z16o (s : Sh) (hs : ShopOk s) (p : List Nat) (hp : PlanOk s p) (TL PL : List D) (hT : TL = s.tasks.map taskD) (hP : PL = p.map (fun i => I (i : Nat))) (Q) (hq : Q (RA.ret (I 0)) []) :
  CallA Tryz.prog 118 [.agg [I s.benches, .sl 3 TL], .sl 1 PL] [] Q := by
 obtain ⟨A, hA⟩ : ∃ A, A = ar := ⟨_, rfl⟩;refine Z5 Z0 hA Tryz.func118 rfl rfl rfl rfl rfl fun S hS => ?_;cbv;refine Z4 hS [.agg [I s.benches, .sl 3 TL]] [] [] rfl rfl rfl rfl rfl rfl rfl rfl (by decide) trivial (bCheck s hs.fin TL hT 0 hs.chk.symm _ ?_);refine Z3 Z0 hA hS ?_;cbv
 split
 ·rename_i c
  exact absurd rfl (xne hA c)
 rename_i c
 cbv;refine Z4 hS [.agg [I s.benches, .sl 3 TL], .sl 1 PL] [] [] rfl rfl rfl rfl rfl rfl rfl rfl (by decide) trivial (Z18e s hs.len hs.fin.2 p hp TL PL hT hP _ ?_);refine Z3 Z0 hA hS ?_;cbv;refine Z4 hS [.v .nilIface, .ifc 230 (.b 0 0)] [1] [.box (.agg [I 0])] rfl rfl rfl rfl rfl rfl rfl rfl (by decide) ⟨rfl, trivial⟩ (Z1ad 230 _ _ ?_);refine Z3 Z0 hA hS ?_;cbv;exact Z2 [] (by decide) Z9 (H' := []) (d' := I 0) trivial rfl (Z1 hq)
theorem Z16p {b : Int} : ∀ {l : List Wk}, Z156 b l = 0 -> ∀ w ∈ l, chkW b w = 0
 | [], _, _, h => by simp at h
 | w :: r, e, x, hx => by
  simp only [Z156] at e
  by_cases hw : chkW b w = 0
  ·rw [if_pos hw] at e;rcases List.mem_cons.1 hx with rfl | h
   ·exact hw
   ·exact Z16p e x h
  ·rw [if_neg hw] at e; exact absurd e hw
theorem Z16q {b : Int} : ∀ {l : List Tk}, Z157 b l = 0 -> ∀ t ∈ l, chkT b t = 0
 | [], _, _, h => by simp at h
 | w :: r, e, x, hx => by
  simp only [Z157] at e
  by_cases hw : chkT b w = 0
  ·rw [if_pos hw] at e;rcases List.mem_cons.1 hx with rfl | h
   ·exact hw
   ·exact Z16q e x h
  ·rw [if_neg hw] at e; exact absurd e hw
theorem Z16f {n lo hi : Int} : amg n lo hi = true ↔ lo <= n /\ n <= hi := by simp [amg]
theorem Z152 {c : Prop} [Decidable c] {x y : Int} (hx : x ≠ 0) (h : (if c then x else y) = 0) : ¬ c /\ y = 0 := by
 by_cases hc : c
 ·rw [if_pos hc] at h; exact absurd h hx
 ·rw [if_neg hc] at h; exact ⟨hc, h⟩
theorem Z1ek {s : Sh} (h : chkS s = 0) : Val s := by
 unfold chkS at h;obtain ⟨h1, h⟩ := Z152 (by decide) h;obtain ⟨h2, h⟩ := Z152 (by decide) h;have h1 : amg s.benches 1 3 = true := by simpa using h1
 rw [Z16f] at h1
 by_cases h3 : Z157 s.benches s.tasks = 0
 ·rw [if_pos h3] at h;obtain ⟨h4, -⟩ := Z152 (by decide) h;have ht := Z16q h3;have hT : ∀ t ∈ s.tasks, (0 <= t.ready /\ t.ready <= 200) /\ (0 <= t.due /\ t.due <= 200) /\ t.works ≠ [] /\ Z156 s.benches t.works = 0 := fun t hm => by
   have := ht t hm;unfold chkT at this;obtain ⟨a1, this⟩ := Z152 (by decide) this;obtain ⟨a2, this⟩ := Z152 (by decide) this;obtain ⟨a3, this⟩ := Z152 (by decide) this;have a1 : amg t.ready 0 200 = true := by simpa using a1
   have a2 : amg t.due 0 200 = true := by simpa using a2
   exact ⟨Z16f.1 a1, Z16f.1 a2, a3, this⟩
  refine ⟨h1.1, h1.2, by omega, fun t hm => (hT t hm).1, fun t hm => (hT t hm).2.1, fun t hm => (hT t hm).2.2.1, fun t hm w hw => ?_, by omega⟩;have := Z16p (hT t hm).2.2.2 w hw;unfold chkW at this;obtain ⟨a1, this⟩ := Z152 (by decide) this;obtain ⟨a2, this⟩ := Z152 (by decide) this;obtain ⟨a3, this⟩ := Z152 (by decide) this;obtain ⟨a4, -⟩ := Z152 (by decide) this;have a1 : amg w.b 0 (s.benches - 1) = true := by simpa using a1
  have a2 : amg w.lo 1 20 = true := by simpa using a2
  have a3 : amg w.hi 1 20 = true := by simpa using a3
  rw [Z16f] at a1 a2 a3;omega
 ·rw [if_neg h3] at h; exact absurd h h3
theorem PlanOk.le {s : Sh} {p : List Nat} (h : PlanOk s p) : PlanLe s p := ⟨h.lt, fun i hi => Nat.le_of_eq (h.cnt i hi)⟩
end Go.Proofs.YthljpccegkmdnaaGreatDoor.Bn

namespace Go.Proofs.YthljpccegkmdnaaGreatDoor.Bn
open Go Go.Abs Go.Proofs
set_option maxRecDepth 20000 in
set_option maxHeartbeats 4000000 in
theorem Z1ae (s : Sh) (hv : Val s) (p : List Nat) (hp : PlanLe s p) (hpl : p.length <= 20) (TL PL : List D) (hT : TL = s.tasks.map taskD) (hP : PL = p.map (fun i => I (i : Nat))) (Q)
  (hq : ∀ OL, OL = (runS s (fun _ => 0) p).map Z14v -> Q (RA.ret (.o 0 7 p.length)) [.els 7 OL]) : CallA Tryz.prog 119 [.agg [I s.benches, .sl 3 TL, .sl 1 PL], .v (.map none)] [] Q := by
 obtain ⟨A, hA⟩ : ∃ A, A = ar := ⟨_, rfl⟩;have hTl : TL.length = s.tasks.length := by rw [hT]; simp
 have hPl : PL.length = p.length := by rw [hP]; simp
 obtain ⟨mo, hmo⟩ : ∃ mo : Nat -> Int, mo = fun _ => 0 := ⟨_, rfl⟩;obtain ⟨M, hM⟩ : ∃ M : Int, 0 <= M /\ M <= 1000 := ⟨0, by decide, by decide⟩;have hm : ∀ a, 0 <= mo a /\ mo a <= M := fun a => by rw [hmo]; exact ⟨Int.le_refl _, hM.1⟩
 rw [<- hmo] at hq;have hr0 : 0 <= ((PL.length : Nat) : Int) := by omega
 have hr1 : PL.length * 56 <= 140737488355328 /\ PL.length <= 4611686018427387904 := by omega
 refine Z5 Z0 hA Tryz.func119 rfl rfl rfl rfl rfl fun S hS => ?_;cbv;refine ⟨by subst hA; exact hr0, by subst hA; exact hr1, ?_⟩;refine Z4 hS [] [] [] rfl rfl rfl rfl rfl rfl rfl rfl (by decide) trivial (Z19b _ ?_);refine Z3 Z0 hA hS ?_;cbv;refine Zb hS ?_;obtain ⟨SL, hSL⟩ : ∃ SL : List D, SL = [.agg [.fn 180 [], .fn 181 []], .agg [.fn 182 [], .fn 183 []]] := ⟨_, rfl⟩;have hSl2 : SL.length = 2 := by rw [hSL]; rfl
 obtain ⟨N, hN⟩ : ∃ N, N = p.length := ⟨_, rfl⟩;obtain ⟨st, hst⟩ : ∃ st : Nat -> Nat -> Sl, st = fun j n => slAt s mo p (decide (1 <= j)) (if 2 <= j then N else 0) n := ⟨_, rfl⟩;have hside : ∀ jn, jn < 2 -> ∃ f g sd, SideOk f g sd /\ SL[jn]? = some (.agg [.fn f [], .fn g []]) /\ (∀ n, n < N -> st jn n = slAt s mo p sd 0 n) /\ (∀ n, n < N -> st (jn + 1) n = slAt s mo p sd N n) := fun jn hj => by
  match jn, hj with
  | 0, _ => exact ⟨180, 181, false, Z199, by rw [hSL]; rfl, fun n hn => by rw [hst]; rfl, fun n hn => by rw [hst]; simp [slAt, hn]⟩
  | 1, _ => exact ⟨182, 183, true, Z19a, by rw [hSL]; rfl, fun n hn => by rw [hst]; rfl, fun n hn => by rw [hst]; rfl⟩
 have hPN : PL.length = N := by omega
 refine Za (α := Int × Nat × List D) (fun q => { env := [(1, .v (.map none)), (2, .b 0 0), (5, .o 1 7 N), (22, .sl 2 SL), (23, I 2), (24, I q.1)], H := [.box (.agg [I s.benches, .sl 3 TL, .sl 1 PL]), .els 7 q.2.2], nt := 133, dfs := [] })
  (fun q => 2 - q.2.1) (fun q => q.2.1 <= 2 /\ IsI q.1 q.2.1 /\ q.2.2.length = N /\ ∀ n, n < N -> q.2.2[n]? = some (Z14v (st q.2.1 n))) (0, 0, List.replicate PL.length (Z14v ⟨0, 0, 0, 0, 0, 0, 0⟩)) ⟨Nat.zero_le _, ⟨rfl⟩, by simp; omega, fun n hn => ?_⟩ ?_ ?_
 ·subst hst;simp only [List.getElem?_replicate];rw [if_pos (by omega)];simp [slAt]
 ·exact Zf [0, 1] ⟨by decide, Z9, ⟨rfl, by subst hA; rfl, trivial⟩, ⟨rfl, rfl, by subst hA; rw [<- hPN]; rfl, by rw [hSL]; rfl, by subst hA; rfl, rfl, trivial⟩, rfl, rfl⟩
 rintro ⟨j, jn, OL⟩ ⟨q1, q2, q3, q4⟩;dsimp only at q1 q2 q3 q4;refine Zi Z0 hA hS ?_;cbv
 split
 ·rename_i c
  have hj : jn < 2 := yltC hA 2 q2 c;obtain ⟨f, g, sd, hsd, hSLj, hs0, hs1⟩ := hside jn hj;cbv;refine ⟨Z1b hA hSl2 q2 hj, ⟨_, Z18 hA q2 hSLj, ?_⟩⟩;cbv;refine Zb hS ?_;refine Za (α := Int × Nat × List D) (fun q => { env := [(1, .v (.map none)), (2, .b 0 0), (5, .o 1 7 N), (7, .b 2 0), (8, .b 3 0), (22, .sl 2 SL), (23, I 2), (24, I j), (30, .sl 3 TL), (31, I (A.oi (A.len TL))), (32, I q.1)], H := [.box (.agg [I s.benches, .sl 3 TL, .sl 1 PL]), .els 7 OL, .box (.agg [.fn f [], .fn g []]), .box (.arr q.2.2)], nt := 133, dfs := [] })
   (fun q => s.tasks.length - q.2.1) (fun q => q.2.1 <= s.tasks.length /\ IsI q.1 q.2.1 /\ q.2.2 = ckD ⟨[0, 0, 0], pad4 ((s.tasks.take q.2.1).map (·.ready)), [0, 0, 0, 0]⟩) (0, 0, ckD ⟨[0, 0, 0], pad4 [], [0, 0, 0, 0]⟩) ⟨Nat.zero_le _, ⟨rfl⟩, rfl⟩ ?_ ?_
  ·refine Z7w 3 (.arr (ckD ⟨[0, 0, 0], pad4 [], [0, 0, 0, 0]⟩)) rfl WkL.rfl ?_;exact Zf [0, 1, 2, 3] ⟨by decide, Z9, ⟨rfl, rfl, rfl, rfl, trivial⟩, ⟨rfl, rfl, rfl, rfl, rfl, rfl, rfl, rfl, rfl, rfl, rfl, trivial⟩, rfl, rfl⟩
  rintro ⟨i, k, CL⟩ ⟨r1, r2, r3⟩;dsimp only at r1 r2 r3;have hlen4 := hv.len;have hCl : CL.length = 11 := by
   rw [r3]; simp [ckD, pad4]; omega
  refine Zi Z0 hA hS ?_;cbv
  split
  ·rename_i c2
   have hk : k < s.tasks.length := Z31 hA hTl r2 c2;obtain ⟨t, ht⟩ : ∃ t, t = s.tasks[k] := ⟨_, rfl⟩;obtain ⟨WL, hWL⟩ : ∃ WL, WL = t.works.map Z14x := ⟨_, rfl⟩;have hTk : TL[k]? = some (.agg [I t.ready, I t.due, .sl 3 WL]) := by rw [hT]; simp [hk, <- ht, hWL, taskD]
   obtain ⟨CL2, hCL2⟩ : ∃ L, L = CL.set (3 + k) (I t.ready) := ⟨_, rfl⟩;have hset : CL2 = ckD ⟨[0, 0, 0], pad4 ((s.tasks.take (k + 1)).map (·.ready)), [0, 0, 0, 0]⟩ := by
    have := Z17k ((s.tasks.take k).map (·.ready)) t.ready (by simp; omega);rw [hCL2, r3];have hl : ((s.tasks.take k).map (·.ready)).length = k := by simp; omega
    rw [hl] at this;rw [this, List.take_add_one, List.getElem?_eq_getElem hk, <- ht];simp
   have hvw := Zs6 hA 3 r2 hCL2;have hfr : frL CL2 = true := by rw [hset]; exact Z160 _
   cbv;refine ⟨Z1b hA hTl r2 hk, ⟨_, Z18 hA r2 hTk, ?_⟩⟩;cbv;refine ⟨Z4o hA r2 (by omega), Zwm hA 3 r2 hCl (by omega), Zy hA r2 (by omega), ?_⟩;refine Z8 (A.add i 1, k + 1, CL2) [0, 1, 2, 3] ⟨hk, Zz hA r2, hset⟩ (by simp only; omega) ?_;exact ⟨by decide, Z9, ⟨rfl, rfl, rfl, (congrArg (fun z => some (Blk.box (D.arr z))) hvw).trans (Z15t _ hfr), trivial⟩, ⟨rfl, rfl, rfl, rfl, rfl, rfl, rfl, rfl, rfl, rfl, rfl, trivial⟩, rfl, rfl⟩
  ·rename_i c2
   have hk : s.tasks.length <= k := Z21 hA hTl r2 c2;have hk : k = s.tasks.length := by omega
   have r4 : CL = ckD (Z14y s) := by rw [r3, hk, List.take_length]; rfl
   have hfr : frL CL = true := by rw [r4]; exact Z160 _
   cbv;refine Z7 ?_;cbv;refine Zb hS ?_;refine Za (α := Int × Nat × List D × List D) (fun q => { env := [(1, .v (.map none)), (2, .b 0 0), (5, .o 1 7 N), (7, .b 2 0), (8, .b 3 0), (22, .sl 2 SL), (23, I 2), (24, I j), (44, .sl 1 PL), (45, I (A.oi (A.len PL))), (46, I q.1)], H := [.box (.agg [I s.benches, .sl 3 TL, .sl 1 PL]), .els 7 q.2.2.1, .box (.agg [.fn f [], .fn g []]), .box (.arr q.2.2.2)], nt := 133, dfs := [] })
    (fun q => p.length - q.2.1) (fun q => q.2.1 <= p.length /\ IsI q.1 q.2.1 /\ q.2.2.1.length = N /\ (∀ n, n < N -> q.2.2.1[n]? = some (Z14v (slAt s mo p sd q.2.1 n))) /\ q.2.2.2 = ckD (ckAt sd s mo (Z14y s) 0 p q.2.1)) (0, 0, OL, CL) ⟨Nat.zero_le _, ⟨rfl⟩, q3, fun n hn => by rw [q4 n hn, hs0 n hn], r4⟩ ?_ ?_
   ·exact Zf [0, 1, 2, 3] ⟨by decide, Z9, ⟨rfl, rfl, rfl, Z15t _ hfr, trivial⟩, ⟨rfl, rfl, rfl, rfl, rfl, rfl, rfl, rfl, rfl, rfl, rfl, trivial⟩, rfl, rfl⟩
   rintro ⟨a, n, OL', CL'⟩ ⟨u1, u2, u3, u4, u5⟩;dsimp only at u1 u2 u3 u4 u5;have hCl' : CL'.length = 11 := by
    have hc := Z166 (sd := sd) (more := mo) (M := M) hv hp hM.1 hm n u1;rw [u5]; simp [ckD, hc.bn, hc.tk, hc.dn]
   refine Zi Z0 hA hS ?_;cbv
   split
   ·rename_i c3
    have hn : n < p.length := Z31 hA hPl u2 c3;obtain ⟨pi, kN, wb, t, w, tk, bn, sv, hf⟩ := Z16i (sd := sd) hv hp hM hm hpl hn;obtain ⟨piI, hpiI⟩ : ∃ x, IsI x pi := ⟨_, ⟨rfl⟩⟩;obtain ⟨kI, hkI⟩ : ∃ x, IsI x kN := ⟨_, ⟨rfl⟩⟩;have hp4 := hf.p4;have hpt := hf.pt;have hPn : PL[n]? = some (I piI) := by rw [hP, hpiI.eq]; simp [hf.pn]
    have hd : CL'[7 + pi]? = some (I kI) := by rw [u5, hkI.eq]; exact hf.dn
    have htk : CL'[3 + pi]? = some (I tk) := by rw [u5]; exact hf.tkv
    have hbn : CL'[0 + wb]? = some (I bn) := by rw [u5]; exact hf.bnv
    obtain ⟨WL, hWL⟩ : ∃ WL, WL = t.works.map Z14x := ⟨_, rfl⟩;have hWl : WL.length = t.works.length := by rw [hWL]; simp
    have hTp : TL[pi]? = some (.agg [I t.ready, I t.due, .sl 3 WL]) := by rw [hT]; simp [hf.tt, hWL, taskD]
    have hWk : WL[kN]? = some (.agg [I w.b, I w.lo, I w.hi]) := by rw [hWL]; simp [hf.ww, Z14x]
    obtain ⟨o, ho⟩ : ∃ o, o = slAt s mo p sd n n := ⟨_, rfl⟩;have hNn : n < N := by omega
    have hOn : OL'[n]? = some (Z14v o) := by rw [ho]; exact u4 n hNn
    obtain ⟨oT, oK, oB, oBl, oBh, oEl, oEh⟩ := o;have bx := Z17j hA hf.tkb hf.bnb;have by1 := Z17i hA bx hf.svb;obtain ⟨mv, hmv⟩ : ∃ x : Int, x = mo n := ⟨_, rfl⟩;have bm : Btw 0 (0 : Int) 1000 := ⟨by decide, by decide⟩;have hm0 : mo n = 0 := by rw [hmo]
    obtain ⟨yy, hyy⟩ : ∃ y, y = A.add (A.add (A.max tk bn) sv) 0 := ⟨_, rfl⟩;have hyy2 : yy = max tk bn + sv + mo n := by rw [hyy, hm0, Z58 hA, Z58 hA, Zuq hA]
    obtain ⟨CL2, hCL2⟩ : ∃ L, L = ckD (ckAt sd s mo (Z14y s) 0 p (n + 1)) := ⟨_, rfl⟩;have hset := hCL2.trans (hf.nx yy hyy2);rw [<- u5] at hset;have hfr : frL CL2 = true := by rw [hCL2]; exact Z160 _
    rw [<- (Zz hA hkI).eq, hyy] at hset;obtain ⟨bl1, hbl1⟩ : ∃ x : Int, x = pk sd (A.max tk bn) oBl := ⟨_, rfl⟩;obtain ⟨bh1, hbh1⟩ : ∃ x : Int, x = pk sd oBh (A.max tk bn) := ⟨_, rfl⟩;obtain ⟨el1, hel1⟩ : ∃ x : Int, x = pk sd yy oEl := ⟨_, rfl⟩;obtain ⟨eh1, heh1⟩ : ∃ x : Int, x = pk sd oEh yy := ⟨_, rfl⟩;have hsl : slAt s mo p sd (n + 1) n = ⟨piI, kI, w.b, bl1, bh1, el1, eh1⟩ := by
     rw [hf.sl (A.max tk bn) yy _ (Zuq hA _ _) (by rw [hyy2, Zuq hA]) ho, hbl1, hbh1, hel1, heh1, hpiI.eq, hkI.eq]
    obtain ⟨R0, hR0⟩ : ∃ R, R = A.set (A.set (A.set OL' (A.tn a) (.agg [I piI, I oK, I oB, I oBl, I oBh, I oEl, I oEh])) (A.tn a) (.agg [I piI, I kI, I oB, I oBl, I oBh, I oEl, I oEh])) (A.tn a) (.agg [I piI, I kI, I w.b, I oBl, I oBh, I oEl, I oEh]) := ⟨_, rfl⟩;have hR0l : R0.length = N := by rw [hR0]; exact Z153 hA (Z153 hA (Z153 hA u3))
    have hR0n : R0[A.tn a]? = some (.agg [I piI, I kI, I w.b, I oBl, I oBh, I oEl, I oEh]) := by
     rw [hR0, xset hA]; exact List.getElem?_set_self (by rw [Z153 hA (Z153 hA u3), ytn hA u2]; exact hNn)
    obtain ⟨R1, hR1⟩ : ∃ R1, R1 = R0.set (A.tn a) (.agg [I piI, I kI, I w.b, I bl1, I bh1, I oEl, I oEh]) := ⟨_, rfl⟩;have hR1n : R1[A.tn a]? = some (.agg [I piI, I kI, I w.b, I bl1, I bh1, I oEl, I oEh]) := by
     rw [hR1]; exact List.getElem?_set_self (by rw [ytn hA u2, hR0l]; exact hNn)
    obtain ⟨R2, hR2⟩ : ∃ R2, R2 = R1.set (A.tn a) (.agg [I piI, I kI, I w.b, I bl1, I bh1, I el1, I eh1]) := ⟨_, rfl⟩;have hR2l : R2.length = N := by rw [hR2, List.length_set, hR1, List.length_set, hR0l]
    have hR2k : R2[A.tn a]? = some (.agg [I piI, I kI, I w.b, I bl1, I bh1, I el1, I eh1]) := by
     rw [hR2]; exact List.getElem?_set_self (by rw [ytn hA u2, hR1, List.length_set, hR0l]; exact hNn)
    have hR2n : ∀ m, m < N -> R2[m]? = some (Z14v (slAt s mo p sd (n + 1) m)) := fun m hm' => by
     rw [ytn hA u2] at hR1 hR2 hR0
     by_cases e : m = n
     ·rw [ytn hA u2] at hR2k; rw [e, hsl, hR2k]; rfl
     ·rw [Z179 e, hR2, List.getElem?_set_ne (Ne.symm e), hR1, List.getElem?_set_ne (Ne.symm e), hR0, xset hA, xset hA, xset hA, List.getElem?_set_ne (Ne.symm e), List.getElem?_set_ne (Ne.symm e), List.getElem?_set_ne (Ne.symm e)]; exact u4 m hm'
    cbv;refine ⟨Z1b hA hPl u2 hn, ⟨_, Z18 hA u2 hPn, ?_⟩⟩;cbv;refine ⟨Z4o hA hpiI hp4, ⟨_, Zo9 hA 7 hpiI hd, ?_⟩⟩;cbv;refine ⟨Z1b hA hTl hpiI hpt, ⟨_, Z18 hA hpiI hTp, ?_⟩⟩;cbv;refine ⟨Z1b hA hWl hkI hf.kw, ⟨_, Z18 hA hkI hWk, ?_⟩⟩;cbv;refine Z16 Z0 hA hS [0, 1, 2, 3, 4, 5, 6, 7, 8, 9, 10] rfl rfl fun Dk hD => ?_;cbv;refine ⟨Z4o hA hpiI hp4, ⟨_, Zo9 hA 3 hpiI htk, ?_⟩⟩;cbv;refine ⟨Z4o hA hf.wbi hf.wb3, ⟨_, Zo9 hA 0 hf.wbi hbn, ?_⟩⟩;cbv;refine Z16 Z0 hA hS [0, 1, 2, 3, 4, 7, 8, 9, 5, 6, 10, 11] rfl rfl fun Dk hD => ?_;cbv;refine ⟨[a], rfl, ?_⟩;cbv;refine Zq hA hD [.agg [I w.lo, I w.hi]] [] [] rfl rfl rfl rfl rfl rfl rfl rfl rfl rfl rfl (by decide) trivial (hsd.of w.lo w.hi _ ⟨?_, Zx Z0 hA hD ?_⟩)
    ·cbv; exact ⟨⟨[a], rfl, rfl⟩, trivial⟩
    rw [<- hf.sve];cbv;refine ⟨Z16d hA bx hf.svb (by decide), Z16d hA by1 bm (by decide), ?_⟩;cbv;refine ⟨Z4o hA u2 hNn, ?_⟩;refine Z16 Z0 hA hS [0, 1, 2, 3, 4, 5, 6, 7, 8, 9, 10, 11, 12, 13, 14, 15] rfl rfl fun Dk hD => ?_;cbv;refine ⟨_, Z18 hA u2 hOn, ?_⟩;cbv;refine ⟨_, Z15m hA u2 u3 hNn, ?_⟩;cbv;refine ⟨_, Z15m hA u2 (Z153 hA u3) hNn, ?_⟩;cbv;refine Z16 Z0 hA hS [0, 1, 2, 3, 4, 5, 6] rfl rfl fun Dk hD => ?_;cbv;refine Zq hA hD [.p 0 7 (A.tn a) 3, I (A.max tk bn)] [1] [.els 7 (A.set (A.set (A.set OL' (A.tn a) (.agg [I piI, I oK, I oB, I oBl, I oBh, I oEl, I oEh])) (A.tn a) (.agg [I piI, I kI, I oB, I oBl, I oBh, I oEl, I oEh])) (A.tn a) (.agg [I piI, I kI, I w.b, I oBl, I oBh, I oEl, I oEh]))] rfl rfl rfl rfl rfl rfl rfl rfl rfl rfl rfl (by decide) ⟨rfl, trivial⟩ (hsd.sB (A.tn a) (A.max tk bn) piI kI w.b oBl oBh oEl oEh bl1 bh1 _ R1 _ (hR0 ▸ hR0n) hbl1 hbh1 (hR0 ▸ hR1) fun d1 => ⟨?_, Zx Z0 hA hD ?_⟩)
    ·cbv
    cbv;refine Z16 Z0 hA hS [0, 1, 2, 3, 4, 5, 6] rfl rfl fun Dk hD => ?_;cbv;refine Zq hA hD [.p 0 7 (A.tn a) 5, I (A.add (A.add (A.max tk bn) sv) 0)] [1] [.els 7 R1] rfl rfl rfl rfl rfl rfl rfl rfl rfl rfl rfl (by decide) ⟨rfl, trivial⟩ (hsd.sE (A.tn a) (A.add (A.add (A.max tk bn) sv) 0) piI kI w.b bl1 bh1 oEl oEh el1 eh1 _ R2 _ hR1n (hyy ▸ hel1) (hyy ▸ heh1) hR2 fun d2 => ⟨?_, Zx Z0 hA hD ?_⟩)
    ·cbv
    cbv;refine Z16 Z0 hA hS [0, 1, 2, 3, 4, 5, 6, 7, 8, 11, 14, 9, 10, 12, 13, 15, 16] rfl rfl fun Dk hD => ?_;cbv;have hpj : A.ltN (A.addN 0 (A.mulN (A.tn w.b) 1)) (A.set CL' (A.addN 3 (A.mulN (A.tn piI) 1)) (I (A.add (A.add (A.max tk bn) sv) 0))) := Zwm hA 0 hf.wbi (m := 11) (by rw [xset hA, List.length_set]; exact hCl') (by have := hf.wb3; omega);have hpk : A.ltN (A.addN 7 (A.mulN (A.tn piI) 1)) (A.set (A.set CL' (A.addN 3 (A.mulN (A.tn piI) 1)) (I (A.add (A.add (A.max tk bn) sv) 0))) (A.addN 0 (A.mulN (A.tn w.b) 1)) (I (A.add (A.add (A.max tk bn) sv) 0))) := Zwm hA 7 hpiI (m := 11) (by rw [xset hA, List.length_set, xset hA, List.length_set]; exact hCl') (by omega);refine ⟨Zy hA hkI (by have := hf.kl; omega), Z4o hA hpiI hp4, Zwm hA 3 hpiI hCl' (by omega), Z4o hA hf.wbi hf.wb3, hpj, Z4o hA hpiI hp4, hpk, Zy hA u2 (by omega), ?_⟩;refine Z8 (A.add a 1, n + 1, R2, CL2) [0, 1, 2, 3] ⟨hn, Zz hA u2, hR2l, hR2n, hCL2⟩ (by simp only; omega) ?_;exact ⟨by decide, Z9, ⟨rfl, rfl, rfl, Z17a hA hpiI hf.wbi hset _ hfr, trivial⟩, ⟨rfl, rfl, rfl, rfl, rfl, rfl, rfl, rfl, rfl, rfl, rfl, trivial⟩, rfl, rfl⟩
   ·rename_i c3
    have hn : p.length <= n := Z21 hA hPl u2 c3;have hn2 : n = N := by omega
    cbv;refine Z7 ?_;cbv;refine ⟨Zy hA q2 (by omega), ?_⟩;refine Z8 (A.add j 1, jn + 1, OL') [0, 1] ⟨hj, Zz hA q2, u3, fun m hm' => by rw [hs1 m hm', <- hn2]; exact u4 m hm'⟩ (by simp only; omega) ?_;exact ⟨by decide, Z9, ⟨rfl, rfl, trivial⟩, ⟨rfl, rfl, rfl, rfl, rfl, rfl, trivial⟩, rfl, rfl⟩
 ·rename_i c
  have hj : 2 <= jn := Z197 hA 2 q2 c;have hj2 : jn = 2 := by omega
  have hOL : OL = (runS s mo p).map Z14v := by
   refine List.ext_getElem? fun m => ?_
   by_cases h : m < N
   ·rw [q4 m h, hst, hj2];simp only [runS, List.map_map, List.getElem?_map];rw [List.getElem?_range (by omega)];simp [slAt, h]
   ·rw [List.getElem?_eq_none (by omega), List.getElem?_eq_none (by simp [runS]; omega)]
  cbv;refine Z7 ?_;cbv;have hNe : N = p.length := hN;have hend := hq OL hOL;rw [<- hNe] at hend;exact Z2 [1] (by decide) Z9 (H' := [.els 7 OL]) (d' := .o 0 7 N) ⟨rfl, trivial⟩ rfl (Z1 hend)
theorem bRunPlanO (s : Sh) (hs : ShopOk s) (p : List Nat) (hp : PlanOk s p) (N : Nat) (hN : N = p.length) (TL PL : List D) (hT : TL = s.tasks.map taskD) (hP : PL = p.map (fun i => I (i : Nat))) (Q) (hq : ∀ RL, RL = (runS s (fun _ => 0) p).map Z14v -> Q (RA.ret (.tup [.o 0 7 N, I 0])) [.els 7 RL]) :
  CallA Tryz.prog 74 [.agg [I s.benches, .sl 3 TL], .sl 1 PL] [] Q := by
 obtain ⟨A, hA⟩ : ∃ A, A = ar := ⟨_, rfl⟩;have hv := Z1ek hs.chk;have hpl : p.length <= 20 := by rw [hp.len]; have := hv.sum; omega
 have cR := fun Q h => Z1ae s hv p hp.le hpl TL PL hT hP Q h;rw [<- hN] at cR;refine Z5 Z0 hA Tryz.func74 rfl rfl rfl rfl rfl fun S hS => ?_;cbv;refine Z4 hS [.agg [I s.benches, .sl 3 TL], .sl 1 PL] [] [] rfl rfl rfl rfl rfl rfl rfl rfl (by decide) trivial (Z16o s hs p hp TL PL hT hP _ ?_);refine Z3 Z0 hA hS ?_;cbv
 split
 ·rename_i c
  exact absurd rfl (xne hA c)
 rename_i c
 cbv;refine Z4 hS [.agg [I s.benches, .sl 3 TL, .sl 1 PL], .v (.map none)] [] [] rfl rfl rfl rfl rfl rfl rfl rfl (by decide) trivial (cR _ fun RL hRL => ?_);refine Z3 Z0 hA hS ?_;cbv;exact Z2 [1] (by decide) Z9 (H' := [.els 7 RL]) (d' := .tup [.o 0 7 N, I 0]) ⟨rfl, trivial⟩ rfl (Z1 (hq RL hRL))
end Go.Proofs.YthljpccegkmdnaaGreatDoor.Bn

namespace Go.Proofs.YthljpccegkmdnaaGreatDoor.Bn
open Go Go.Abs Go.Proofs
theorem Z1af (t k b bl bh el eh t' k' b' bl' bh' el' eh' : Int) (hk : 0 <= bh /\ bh <= 1000) (hk' : 0 <= bh' /\ bh' <= 1000) (Q) (hq : ∀ x, x = bh - bh' -> Q (RA.ret (I x)) []) :
  CallA Tryz.prog 75 [.agg [I t, I k, I b, I bl, I bh, I el, I eh], .agg [I t', I k', I b', I bl', I bh', I el', I eh']] [] Q := by
 obtain ⟨A, hA⟩ : ∃ A, A = ar := ⟨_, rfl⟩;have hf : A.fits .i64 (A.sub bh bh') := Z14 hA (Z24 hA bh bh') (by omega);have hx := Z24 hA bh bh';refine Z5 Z0 hA Tryz.func75 rfl rfl rfl rfl rfl fun S hS => ?_;cbv;exact ⟨hf, Z2 [] (by decide) Z9 (H' := []) (d' := I (A.sub bh bh')) trivial rfl (Z1 (hq _ hx))⟩
theorem Z17q {l : List Sl} {j : Nat} {x y : Sl} (h1 : l[j + 1]? = some x) (h2 : l[j]? = some y) : bubB l (j + 1) = if x.bh < y.bh then bubB (swpB l (j + 1)) j else l := by
 rw [bubB, h1, h2]
set_option maxRecDepth 20000 in
set_option maxHeartbeats 2000000 in
theorem Z1ag (l : List Sl) (hk : ∀ x ∈ l, 0 <= x.bh /\ x.bh <= 1000) (hl : l.length <= 1000) (n : Int) (hn : IsI n l.length) (N : Nat) (hN : N = l.length) (L : List D) (hL : L = l.map Z14v) (Q) (hq : ∀ d L', L' = (sortB l).map Z14v -> Q (RA.ret d) [.els 7 L']) :
  CallA Tryz.prog 154 [.o 0 7 N, I 0, I n, .fn 75 []] [.els 7 L] Q := by
 obtain ⟨A, hA⟩ : ∃ A, A = ar := ⟨_, rfl⟩;have h01 : IsI (A.add 0 1) 1 := Zz hA ⟨rfl⟩;have hf1 : A.fits .i64 (A.add 0 1) := Zy hA (k := 0) ⟨rfl⟩ (by decide);refine Z5 Z0 hA Tryz.func154 rfl rfl rfl rfl rfl fun S hS => ?_;cbv;refine ⟨hf1, ?_⟩;refine Zb hS ?_;refine Za (α := Int × Nat × List Sl × List D) (fun q => { env := [(0, .o 0 7 N), (1, I 0), (2, I n), (3, .fn 75 []), (8, I q.1)], H := [.els 7 q.2.2.2], nt := 53, dfs := [] })
  (fun q => l.length - q.2.1) (fun q => IsI q.1 q.2.1 /\ 1 <= q.2.1 /\ q.2.2.2 = q.2.2.1.map Z14v /\ q.2.2.1.length = l.length /\ (∀ x ∈ q.2.2.1, 0 <= x.bh /\ x.bh <= 1000) /\ sortB l = insB q.2.2.1 q.2.1 (l.length - q.2.1)) (A.add 0 1, 1, l, L) ⟨h01, Nat.le_refl _, hL, rfl, hk, rfl⟩ ?_ ?_
 ·exact Zf [0] ⟨by decide, Z2n, ⟨rfl, trivial⟩, ⟨rfl, rfl, rfl, rfl, rfl, trivial⟩, rfl, rfl⟩
 rintro ⟨i, k, l1, L1⟩ ⟨u1, u2, u3, u4, u5, u6⟩;dsimp only at u1 u2 u3 u4 u5 u6;refine Zi Z0 hA hS ?_;cbv
 split
 ·rename_i c
  have hkn : k < l.length := by have := xlt hA c; have := u1.eq; have := hn.eq; omega
  cbv;refine Zb hS ?_;refine Za (α := Int × Nat × List Sl × List D) (fun q => { env := [(0, .o 0 7 N), (1, I 0), (2, I n), (3, .fn 75 []), (8, I i), (9, I q.1)], H := [.els 7 q.2.2.2], nt := 53, dfs := [] })
   (fun q => q.2.1) (fun q => IsI q.1 q.2.1 /\ q.2.1 <= k /\ q.2.2.2 = q.2.2.1.map Z14v /\ q.2.2.1.length = l.length /\ (∀ x ∈ q.2.2.1, 0 <= x.bh /\ x.bh <= 1000) /\ bubB l1 k = bubB q.2.2.1 q.2.1) (i, k, l1, L1) ⟨u1, Nat.le_refl _, u3, u4, u5, rfl⟩ ?_ ?_
  ·exact Zf [0] ⟨by decide, Z2n, ⟨rfl, trivial⟩, ⟨rfl, rfl, rfl, rfl, rfl, rfl, trivial⟩, rfl, rfl⟩
  rintro ⟨j, m, l2, L2⟩ ⟨v1, v2, v3, v4, v5, v6⟩;dsimp only at v1 v2 v3 v4 v5 v6;have hz : m = 0 ∨ ∃ m', m = m' + 1 := by cases m with | zero => exact .inl rfl | succ m => exact .inr ⟨m, rfl⟩
  rcases hz with hz | ⟨m', hz⟩
  ·subst hz;have hj0 : A.cmp .gtr j 0 = false := by have := v1.eq; subst hA; simp [ar, Z25]; omega
   have hend : L2 = (bubB l1 k).map Z14v /\ (bubB l1 k).length = l.length /\ (∀ x ∈ bubB l1 k, 0 <= x.bh /\ x.bh <= 1000) := by
    have e : bubB l1 k = l2 := v6.trans rfl;rw [e]; exact ⟨v3, v4, v5⟩
   have hS2 : sortB l = insB (bubB l1 k) (k + 1) (l.length - (k + 1)) := by
    rw [u6, show l.length - k = (l.length - (k + 1)) + 1 by omega, insB]
   refine Zi Z0 hA hS ?_;cbv;refine Z5j Z0 hA hS [2] [0, 1, 2, 3, 4, 5, 6, 7, 8, 9, 10, 11, 12, 13, 14, 15, 16] rfl rfl fun Dk hD => ?_;cbv;refine Z9n Z0 hA hD [] (.v (.bool false)) rfl rfl rfl rfl rfl rfl (congrArg (fun b => D.v (.bool b)) hj0) ?_;cbv;refine Zbm hA hD (f := 75) (b := false) rfl rfl rfl rfl rfl rfl rfl rfl rfl rfl rfl (fun h => Bool.noConfusion h) (fun _ => ⟨by cbv, Zx Z0 hA hD ?_⟩);cbv;refine Z7 ?_;cbv;refine ⟨Zy hA u1 (by omega), ?_⟩;refine Z8 (A.add i 1, k + 1, bubB l1 k, L2) [0] ⟨Zz hA u1, by simp only; omega, hend.1, hend.2.1, hend.2.2, hS2⟩ (by simp only; omega) ?_;exact ⟨by decide, Z2n, ⟨rfl, trivial⟩, ⟨rfl, rfl, rfl, rfl, rfl, trivial⟩, rfl, rfl⟩
  ·subst hz;have hj0 : A.cmp .gtr j 0 = true := by have := v1.eq; subst hA; simp [ar, Z25]; omega
   have hlen : m' + 1 < l2.length := by omega
   obtain ⟨x, hx⟩ : ∃ x, x = l2[m' + 1] := ⟨_, rfl⟩;obtain ⟨y, hy⟩ : ∃ y, y = l2[m'] := ⟨_, rfl⟩;have hgx : l2[m' + 1]? = some x := by rw [hx]; exact List.getElem?_eq_getElem hlen
   have hgy : l2[m']? = some y := by rw [hy]; exact List.getElem?_eq_getElem (by omega)
   have hLx : L2[m' + 1]? = some (Z14v x) := by rw [v3]; simp [hgx]
   have hLy : L2[m']? = some (Z14v y) := by rw [v3]; simp [hgy]
   have hjs : IsI (A.sub j 1) m' := ⟨by rw [Z24 hA, v1.eq]; omega⟩;have hjf : A.fits .i64 (A.sub j 1) := Z14 hA (Z24 hA j 1) (by have := v1.eq; omega);have hkx := v5 x (List.mem_of_getElem? hgx);have hky := v5 y (List.mem_of_getElem? hgy);have hin1 : A.inb j N := Z4o hA v1 (by omega);have hin2 : A.inb (A.sub j 1) N := Z4o hA hjs (by omega);have hbs := Z17q hgx hgy;refine Zi Z0 hA hS ?_;cbv;refine Z5j Z0 hA hS [2] [0, 1, 2, 3, 4, 5, 6, 7, 8, 9, 10, 11, 12, 13, 14, 15, 16] rfl rfl fun Dk hD => ?_;cbv;refine Z9n Z0 hA hD [] (.v (.bool true)) rfl rfl rfl rfl rfl rfl (congrArg (fun b => D.v (.bool b)) hj0) ?_;cbv;refine ⟨hin1, ⟨_, Z18 hA v1 hLx, ?_⟩⟩;cbv;refine ⟨hjf, hin2, ⟨_, Z18 hA hjs hLy, ?_⟩⟩;cbv;refine Zbm hA hD (b := true) rfl rfl rfl rfl rfl rfl rfl rfl rfl rfl rfl (fun _ => ⟨[], _, [Z14v x, Z14v y], [], [], rfl, rfl, rfl, by decide, trivial, Z1af _ _ _ _ _ _ _ _ _ _ _ _ _ _ hkx hky _ fun z hz => ⟨by cbv, Zx Z0 hA hD ?_⟩⟩) (fun h => absurd rfl h);cbv;refine bm (fun c2 => ?_) (fun c2 => ?_)
   ·have d2 := xlt hA c2;rw [if_pos (by omega)] at hbs;have hsw : swpB l2 (m' + 1) = (l2.set (m' + 1) y).set m' x := by unfold swpB; rw [hgx, Nat.add_sub_cancel, hgy]
    obtain ⟨L3, hL3⟩ : ∃ L3, L3 = L2.set (m' + 1) (Z14v y) := ⟨_, rfl⟩;obtain ⟨L4, hL4⟩ : ∃ L4, L4 = L3.set m' (Z14v x) := ⟨_, rfl⟩;have hm4 : L4 = (swpB l2 (m' + 1)).map Z14v := by rw [hL4, hL3, v3, hsw]; simp
    have hset1 := Z7n (x := Z14v y) hA v1 hL3;have hset2 := Z7n (x := Z14v x) hA hjs hL4;have hg2 : A.get (A.set L2 (A.tn j) (Z14v y)) (A.tn (A.sub j 1)) = some (Z14v y) := by
     rw [hset1]; exact Z18 hA hjs (by rw [hL3, List.getElem?_set_ne (by omega)]; exact hLy)
    have hl2 : L2.length = N := by rw [v3]; simp; omega
    have hl3 : L3.length = N := by rw [hL3]; simp [hl2]
    have hlt1 : A.ltN (A.tn j) L2 := by rw [ytn hA v1]; exact xltN hA hl2 (by omega)
    have hlt2 : A.ltN (A.tn (A.sub j 1)) L3 := by rw [ytn hA hjs]; exact xltN hA hl3 (by omega)
    cbv;refine Z16 Z0 hA hS [0, 1, 2, 3, 4, 5, 6, 7, 8, 9, 10, 11, 12, 13, 14, 15, 16, 17] rfl rfl fun Dk2 hD2 => ?_;cbv;refine ⟨hjf, hjf, hin2, ⟨_, Z18 hA hjs hLy, ?_⟩⟩;cbv;refine ⟨hin1, ⟨_, Z18 hA v1 hLx, ?_⟩⟩;cbv;refine ⟨hin1, ⟨_, Z18 hA v1 hLx, ?_⟩⟩;cbv;refine ⟨hin2, ⟨_, hg2, ?_⟩⟩;cbv;refine ⟨hjf, ?_⟩;refine Z8 (A.sub j 1, m', swpB l2 (m' + 1), A.set (A.set L2 (A.tn j) (Z14v y)) (A.tn (A.sub j 1)) (Z14v x)) [0] ⟨hjs, by simp only; omega, ?_, ?_, ?_, v6.trans hbs⟩ (Nat.lt_succ_self _) ?_
    ·show A.set _ _ _ = _;rw [hset1, hset2, hm4]
    ·simp only; rw [Z167]; exact v4
    ·exact fun z hz => v5 z (Z18b hz)
    ·exact ⟨by decide, Z2n, ⟨rfl, trivial⟩, ⟨rfl, rfl, rfl, rfl, rfl, rfl, trivial⟩, rfl, rfl⟩
   ·have d2 := Z7x hA c2;rw [if_neg (by omega)] at hbs;have hend : L2 = (bubB l1 k).map Z14v /\ (bubB l1 k).length = l.length /\ (∀ x ∈ bubB l1 k, 0 <= x.bh /\ x.bh <= 1000) := by
     have e : bubB l1 k = l2 := v6.trans hbs;rw [e]; exact ⟨v3, v4, v5⟩
    have hS2 : sortB l = insB (bubB l1 k) (k + 1) (l.length - (k + 1)) := by
     rw [u6, show l.length - k = (l.length - (k + 1)) + 1 by omega, insB]
    cbv;refine Z7 ?_;cbv;refine ⟨Zy hA u1 (by omega), ?_⟩;refine Z8 (A.add i 1, k + 1, bubB l1 k, L2) [0] ⟨Zz hA u1, by simp only; omega, hend.1, hend.2.1, hend.2.2, hS2⟩ (by simp only; omega) ?_;exact ⟨by decide, Z2n, ⟨rfl, trivial⟩, ⟨rfl, rfl, rfl, rfl, rfl, trivial⟩, rfl, rfl⟩
 ·rename_i c
  have hkn : l.length <= k := by have := Z7x hA c; have := u1.eq; have := hn.eq; omega
  have hfin : L1 = (sortB l).map Z14v := by rw [u3, u6, show l.length - k = 0 by omega]; rfl
  cbv;refine Z7 ?_;cbv;exact Z1 (hq _ _ hfin)
set_option maxRecDepth 20000 in
set_option maxHeartbeats 2000000 in
theorem Z18h (l : List Sl) (hk : ∀ x ∈ l, 0 <= x.bh /\ x.bh <= 1000) (hl : l.length <= 19) (n : Int) (hn : IsI n l.length) (N : Nat) (hN : N = l.length) (L : List D) (hL : L = l.map Z14v) (Q) (hq : ∀ d L', L' = (sortB l).map Z14v -> Q (RA.ret d) [.els 7 L']) :
  CallA Tryz.prog 120 [.o 0 7 N, I n, .fn 75 []] [.els 7 L] Q := by
 obtain ⟨A, hA⟩ : ∃ A, A = ar := ⟨_, rfl⟩;have h1 : A.cmp .leq 20 n = false := by have := hn.eq; subst hA; simp [ar, Z25]; omega
 have h2 : A.cmp .lss 20 n = false := by have := hn.eq; subst hA; simp [ar, Z25]; omega
 refine Z5 Z0 hA Tryz.func120 rfl rfl rfl rfl rfl fun S hS => ?_;cbv;refine Zb hS ?_;refine Z16h 1 (RnA.out ?_);refine Z198 Z0 hA hS rfl ?_;cbv;refine bm (fun c => Bool.noConfusion (h1.symm.trans c)) (fun _ => ?_);cbv;refine Z4 hS [.o 0 7 N, I 0, I n, .fn 75 []] [0] [.els 7 L] rfl rfl rfl rfl rfl rfl rfl rfl (by decide) ⟨rfl, trivial⟩ (Z1ag l hk (by omega) n hn N hN L hL _ fun d L' hL' => ?_);refine Z3 Z0 hA hS ?_;cbv;refine Zb hS ?_;refine Z16h 1 (RnA.out ?_);refine Z198 Z0 hA hS rfl ?_;cbv;refine bm (fun c => Bool.noConfusion (h2.symm.trans c)) (fun _ => ?_);cbv;exact Z1 (hq _ _ hL')
theorem bSortB (l : List Sl) (hk : ∀ x ∈ l, 0 <= x.bh /\ x.bh <= 1000) (hl : l.length <= 19) (N : Nat) (hN : N = l.length) (L : List D) (hL : L = l.map Z14v) (Q) (hq : ∀ d L', L' = (sortB l).map Z14v -> Q (RA.ret d) [.els 7 L']) :
  CallA Tryz.prog 76 [.o 0 7 N, .fn 75 []] [.els 7 L] Q := by
 obtain ⟨A, hA⟩ : ∃ A, A = ar := ⟨_, rfl⟩;have hn : IsI (A.oi N) l.length := ⟨by rw [xoi hA, hN]⟩;refine Z5 Z0 hA Tryz.func76 rfl rfl rfl rfl rfl fun S hS => ?_;cbv;refine Z4 hS [.o 0 7 N, I (A.oi N), .fn 75 []] [0] [.els 7 L] rfl rfl rfl rfl rfl rfl rfl rfl (by decide) ⟨rfl, trivial⟩ (Z18h l hk hl _ hn N hN L hL _ fun d L' hL' => ?_);refine Z3 Z0 hA hS ?_;cbv;exact Z1 (hq _ _ hL')
end Go.Proofs.YthljpccegkmdnaaGreatDoor.Bn

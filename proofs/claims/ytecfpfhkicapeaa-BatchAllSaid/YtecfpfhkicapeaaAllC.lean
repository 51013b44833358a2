/- Part AllC of the proofs about the benches of the accordion maker: see the last text of the claim for what is proved. -/
import Derived.Test.YtecfpfhkicapeaaAllB
import Derived.Test.YtecfpfhkicapeaaFirA
import Derived.Test.YtecfpfhkicapeaaBatJ
import Derived.Test.YtecfpfhkicapeaaBatE
import Derived.Test.YtecfpfhkicapeaaRefC
import Derived.Test.YtecfpfhkicapeaaAmoA
import Derived.Test.YtecfpfhkicapeaaCloseA
set_option linter.unusedVariables false
set_option linter.unusedSimpArgs false
set_option linter.unnecessarySimpa false
set_option linter.constructorNameAsVariable false

namespace Go.Batch
structure Fx (ms D : List Mv) (k : Nat) : Prop where
 len : D.length = ms.length
 at_ : ∀ (i : Nat) (m : Mv), ms[i]? = some m -> ∃ m', D[i]? = some m' /\ (m' = m ∨ i < k /\ m.inst < 0 /\ m' = fixM m)
theorem fx_0 (ms : List Mv) : Fx ms ms 0 := ⟨rfl, fun _ m h => ⟨m, h, .inl rfl⟩⟩
theorem Fx.up {ms D : List Mv} {k : Nat} (h : Fx ms D k) : Fx ms D (k + 1) := ⟨h.len, fun i m hm => by
 obtain ⟨m', h1, h2⟩ := h.at_ i m hm
 refine ⟨m', h1, h2.elim .inl fun h => .inr ⟨by omega, h.2⟩⟩⟩
theorem Fx.now {ms D : List Mv} {k : Nat} (h : Fx ms D k) {m : Mv} (hm : ms[k]? = some m) : D[k]? = some m := by
 obtain ⟨m', h1, h2⟩ := h.at_ k m hm;rw [h1, h2.resolve_right fun h => by omega]
theorem Fx.fix {ms D : List Mv} {k : Nat} (h : Fx ms D k) {m : Mv} (hm : ms[k]? = some m) (h0 : m.inst < 0) : Fx ms (D.set k (fixM m)) (k + 1) := ⟨by rw [List.length_set]; exact h.len, fun i x hx => by
 have hk : k < D.length := by rw [h.len]; exact (List.getElem?_eq_some_iff.1 hm).1
 by_cases e : k = i
 ·subst e
  rw [hm] at hx; cases hx
  exact ⟨_, List.getElem?_set_self hk, .inr ⟨Nat.lt_succ_self _, h0, rfl⟩⟩
 ·obtain ⟨m', h1, h2⟩ := h.up.at_ i x hx
  exact ⟨m', by rw [List.getElem?_set_ne e]; exact h1, h2⟩⟩
theorem Z143 {α : Type} (f : Mv -> Option α) : ∀ (D ms : List Mv), D.length = ms.length -> (∀ (i : Nat) (m m' : Mv), ms[i]? = some m -> D[i]? = some m' -> f m' = f m) -> D.filterMap f = ms.filterMap f
 | [], [], _, _ => rfl
 | [], _ :: _, h, _ => by simp at h
 | _ :: _, [], h, _ => by simp at h
 | d :: D, m :: ms, h, hp => by
  have h0 := hp 0 m d rfl rfl;have ih := Z143 f D ms (by simpa using h) fun i x x' h1 h2 => hp (i + 1) x x' (by simpa using h1) (by simpa using h2);rw [List.filterMap_cons, List.filterMap_cons, h0, ih]
theorem Z13b (ms : List Mv) : Z6 ms = ms.filterMap fun m => if m.kind = 1 then some m.bin else none := by
 unfold Z6
 induction ms with
 | nil => rfl
 | cons m ms ih => rw [List.filter_cons, List.filterMap_cons]; by_cases h : m.kind = 1 <;> simp [h, ih]
theorem Fx.same {ms D : List Mv} {k : Nat} (h : Fx ms D k) (i : Nat) (m m' : Mv) (h1 : ms[i]? = some m) (h2 : D[i]? = some m') : m'.kind = m.kind /\ m'.bin = m.bin := by
 obtain ⟨x, e1, e2⟩ := h.at_ i m h1;rw [e1] at h2; cases h2;rcases e2 with rfl | ⟨-, -, rfl⟩
 ·exact ⟨rfl, rfl⟩
 ·obtain ⟨a, b, -, -⟩ := Z10t m; exact ⟨a, b⟩
theorem Fx.bins {ms D : List Mv} {k : Nat} (h : Fx ms D k) : Z6 D = Z6 ms := by
 rw [Z13b, Z13b];exact Z143 _ D ms h.len fun i m m' h1 h2 => by obtain ⟨a, b⟩ := h.same i m m' h1 h2; rw [a, b]
theorem Z14t (ms : List Mv) : (Z6 ms).length + (ms.filter fun m => decide (m.kind = 2)).length <= ms.length := by
 unfold Z6;rw [List.length_map]
 induction ms with
 | nil => exact Nat.le_refl _
 | cons m ms ih =>
  rw [List.filter_cons, List.filter_cons, List.length_cons]
  by_cases h : m.kind = 1
  ·rw [if_pos (by simpa using h), if_neg (by simp; omega), List.length_cons]; omega
  ·rw [if_neg (by simpa using h)]
   split
   ·rw [List.length_cons]; omega
   ·omega
theorem Fx.jok {ins : Int} {first : List Bool} {ms D : List Mv} {k : Nat} (h : Fx ms D k) (hj : JOk ⟨ins, first, ms⟩) : JOk ⟨ins, first, D⟩ where
 i1 := hj.i1
 i4 := hj.i4
 f1 := hj.f1
 f2 := hj.f2
 m10 := by have := hj.m10; have := h.len; show D.length <= 10; simp only at *; omega
 b4 := by have := hj.b4; have e := h.bins; show (Z6 D).length <= 4; rw [e]; exact this
 mv := fun x hx => by
  obtain ⟨i, hi, rfl⟩ := List.mem_iff_getElem.1 hx;have hm : ms[i]? = some (ms[i]'(by rw [<- h.len]; exact hi)) := List.getElem?_eq_getElem _;obtain ⟨x, e1, e2⟩ := h.at_ i _ hm;rw [List.getElem?_eq_getElem hi] at e1;have ok := hj.mv _ (List.mem_of_getElem? hm)
  cases e1
  obtain ⟨x, hx2⟩ : ∃ x, ms[i]? = some x := ⟨_, hm⟩;have hxe : ms[i]'(by rw [<- h.len]; exact hi) = x := by have := hm.symm.trans hx2; simpa using this
  rw [hxe] at ok e2;rcases e2 with e | ⟨-, h0, e⟩
  ·rw [e]; exact ⟨ok.k1, ok.k3, ok.b0, ok.b1, ok.i0, ok.i1, ok.i2, ok.l0, ok.lh, ok.h5⟩
  ·have ef : fixM x = { x with inst := 0 } := by unfold fixM; rw [if_pos h0]
   rw [e, ef];have := hj.i1;exact ⟨ok.k1, ok.k3, ok.b0, ok.b1, fun _ => by show (-1 : Int) <= 0; decide, fun _ => by show (0 : Int) < ins; simp only at this; omega, fun _ => rfl, ok.l0, ok.lh, ok.h5⟩
theorem JOk.count {ins : Int} {first : List Bool} {ms : List Mv} (hj : JOk ⟨ins, first, ms⟩) (hm : ms.length <= 9) {b lo hi : Int} (h0 : 0 <= b) (h1 : b < first.length) (h2 : 0 <= lo) (h3 : lo <= hi) (h5 : hi <= 5) : JOk ⟨ins, first, ms ++ [Zci b lo hi]⟩ where
 i1 := hj.i1
 i4 := hj.i4
 f1 := hj.f1
 f2 := hj.f2
 m10 := by show (ms ++ [Zci b lo hi]).length <= 10; rw [List.length_append]; simp; omega
 b4 := by
  have e : Z6 (ms ++ [Zci b lo hi]) = Z6 ms := by unfold Z6 Zci; rw [List.filter_append]; simp
  have := hj.b4;show (Z6 (ms ++ [Zci b lo hi])).length <= 4;rw [e]; exact this
 mv := fun x hx => by
  rcases List.mem_append.1 hx with h | h
  ·have ok := hj.mv x h;exact ⟨ok.k1, ok.k3, ok.b0, ok.b1, ok.i0, ok.i1, ok.i2, ok.l0, ok.lh, ok.h5⟩
  ·rw [List.mem_singleton.1 h];exact ⟨by show (1 : Int) <= 3; decide, by show (3 : Int) <= 3; decide, h0, h1, fun h => absurd h (by show ¬ (3 : Int) = 2; decide), fun h => absurd h (by show ¬ (3 : Int) = 2; decide), fun _ => rfl, h2, h3, h5⟩
theorem Z14h (ms : List Mv) (b lo hi : Int) : (Z6 (ms ++ [Zci b lo hi])).length + ((ms ++ [Zci b lo hi]).filter fun m => decide (m.kind = 2)).length = (Z6 ms).length + (ms.filter fun m => decide (m.kind = 2)).length := by
 unfold Z6 Zci;rw [List.filter_append, List.filter_append]; simp
end Go.Batch
namespace Go.Proofs.Ytecfpfhkicapeaa
open Go Go.Abs Go.Proofs Go.Batch
set_option maxRecDepth 40000 in
set_option maxHeartbeats 16000000 in
theorem Z14u (x0 : Int) (Q) (hq : ∀ (j : Jn) (FL ML : List D) (x' : Int), JOk j -> (Z6 j.moves).length + (j.moves.filter fun m => decide (m.kind = 2)).length <= 5 -> FL = j.first.map Zv -> ML = j.moves.map mvD -> Q (RA.ret (.agg [I j.ins, .sl 1 FL, .sl 5 ML])) [pot x']) : CallA Try.prog 51 [.b 0 0] [pot x0] Q := by
 obtain ⟨A, hA⟩ : ∃ A, A = ar := ⟨_, rfl⟩;refine Z38 Z0 hA [] Try.func51 rfl rfl rfl rfl rfl fun S hS => ?_;cbv;refine Z4 hS [.b 0 0, I 5, I 1] [0] [pot x0] rfl rfl rfl rfl rfl rfl rfl rfl (by decide) ⟨rfl, trivial⟩ (Z119 x0 5 1 (by decide) ⟨by decide, by decide⟩ _ fun ins first ms lies truth x1 FL M0 TL RL fn nm hfn hnm hi1 hi4 hfl hm10 hmm hg hw hF hM0 hT hR => ?_);have hjk : JOk ⟨ins, first, ms⟩ := hg.jok hi1 hi4 (by omega) (by omega) hm10;have hm5 : ms.length <= 5 := by omega
 have hnm5 : nm <= 5 := by omega
 clear hg hw hT hR hmm hm10;refine Z3 Z0 hA hS ?_;cbv;refine Zb hS ?_;refine Za (α := Int × Nat × Int × List Mv × List D) (fun q => { env := [(0, .b 0 0), (2, .b 1 0), (3, .b 4 0), (6, I q.2.2.1), (7, I q.1)], H := [pot x1, .box (.agg [I 0, .v (.slice none 0 0), .v (.slice none 0 0)]), .els 1 FL, .els 5 q.2.2.2.2, .box (.agg [I ins, .o 2 1 fn, .o 3 5 nm])], nt := 51, dfs := [] })
  (fun q => nm - q.2.1) (fun q => q.2.1 <= nm /\ IsI q.1 q.2.1 /\ Btw 0 q.2.2.1 10 /\ (q.2.2.1 <= q.2.1) /\ Fx ms q.2.2.2.1 q.2.1 /\ q.2.2.2.2 = q.2.2.2.1.map mvD) (0, 0, 0, ms, M0) ⟨Nat.zero_le _, ⟨rfl⟩, ⟨Int.le_refl _, by show (0 : Int) <= 10; decide⟩, Int.le_refl _, fx_0 ms, hM0⟩ ?_ ?_
 ·exact Zf [0, 1, 2, 3, 4] ⟨by decide, Z2n, ⟨rfl, rfl, rfl, rfl, rfl, trivial⟩, ⟨rfl, rfl, rfl, rfl, rfl, trivial⟩, rfl, rfl⟩
 rintro ⟨i, k, lost, DD, MX⟩ ⟨u1, u2, u3, u4, u5, u6⟩;dsimp only at u1 u2 u3 u4 u5 u6;have hyes : A.cmp .lss i (A.oi nm) = true -> k < nm := fun c => by have := xlt hA c; rw [xoi hA] at this; have := u2.eq; omega
 have hno : A.cmp .lss i (A.oi nm) = false -> k = nm := fun c => by have := Z7x hA c; rw [xoi hA] at this; have := u2.eq; omega
 by_cases hk : k < nm
 ·obtain ⟨m, hmk⟩ : ∃ m, ms[k]? = some m := ⟨_, List.getElem?_eq_getElem (by omega)⟩;have hMk : MX[k]? = some (mvD m) := by rw [u6, List.getElem?_map, u5.now hmk]; rfl
  obtain ⟨it, hit⟩ : ∃ it, it = m.inst := ⟨_, rfl⟩;have gM : MX[k]? = some (.agg [I m.kind, I m.bin, I it, I m.lo, I m.hi]) := by rw [hit]; exact hMk
  obtain ⟨kd, hkd⟩ : ∃ kd, kd = m.kind := ⟨_, rfl⟩;obtain ⟨bn, hbn⟩ : ∃ bn, bn = m.bin := ⟨_, rfl⟩;obtain ⟨lo, hlo⟩ : ∃ lo, lo = m.lo := ⟨_, rfl⟩;obtain ⟨hi, hhi⟩ : ∃ hi, hi = m.hi := ⟨_, rfl⟩;rw [<- hkd, <- hbn, <- hlo, <- hhi] at gM;have gM := Z18 hA u2 gM;have hin : A.inb i nm := Z4o hA u2 hk;have hf1 := Zy hA u2 (by omega);have hu2 := Zz hA u2;have hms : nm - (k + 1) < nm - k := by omega
  have hup := u5.up;have hfix : it < 0 -> Fx ms (DD.set k (fixM m)) (k + 1) := fun h => u5.fix hmk (by rw [<- hit]; exact h);have hset : it < 0 -> A.set MX (A.tn i) (.agg [I kd, I bn, I 0, I lo, I hi]) = (DD.set k (fixM m)).map mvD := fun h => by
   have e : fixM m = { m with inst := 0 } := by unfold fixM; rw [if_pos (by rw [<- hit]; exact h)]
   rw [Z7n hA u2 rfl, u6, List.map_set, e, hkd, hbn, hlo, hhi]; rfl
  have hlf : A.fits .i64 (A.add lost 1) := Z14 hA (Z58 hA lost 1) (by have := u3.ge; have := u3.le; omega);have hl1 : Btw 0 (A.add lost 1) 10 := ⟨by rw [Z58 hA]; have := u3.ge; omega, by rw [Z58 hA]; omega⟩;have hl2 : A.add lost 1 <= ((k + 1 : Nat) : Int) := by rw [Z58 hA]; omega
  have hl3 : lost <= ((k + 1 : Nat) : Int) := by omega
  clear hMk;refine Z2w Z0 hA hS [] ?_;cbv;refine bm (fun _ => ?_) (fun c => absurd (hno c) (by omega));cbv;refine ⟨hin, ⟨_, gM, ?_⟩⟩;cbv;refine bm (fun c => ?_) (fun c => ?_)
  ·have h0 := xlt hA c;have hfix := hfix h0;have hset := hset h0;cbv;refine ⟨hlf, ?_⟩;cbv;refine bm (fun c2 => ?_) (fun c2 => ?_)
   ·cbv;refine ⟨hin, ⟨_, gM, ?_⟩⟩;cbv;refine ⟨hf1, ?_⟩;refine Z8 (A.add i 1, k + 1, A.add lost 1, DD.set k (fixM m), A.set MX (A.tn i) (.agg [I kd, I bn, I 0, I lo, I hi])) [0, 1, 2, 3, 4] ⟨hk, hu2, hl1, hl2, hfix, hset⟩ hms ?_;exact ⟨by decide, Z2n, ⟨rfl, rfl, rfl, rfl, rfl, trivial⟩, ⟨rfl, rfl, rfl, rfl, rfl, trivial⟩, rfl, rfl⟩
   ·cbv;refine ⟨hf1, ?_⟩;refine Z8 (A.add i 1, k + 1, A.add lost 1, DD, MX) [0, 1, 2, 3, 4] ⟨hk, hu2, hl1, hl2, hup, u6⟩ hms ?_;exact ⟨by decide, Z2n, ⟨rfl, rfl, rfl, rfl, rfl, trivial⟩, ⟨rfl, rfl, rfl, rfl, rfl, trivial⟩, rfl, rfl⟩
  ·cbv;refine ⟨hf1, ?_⟩;refine Z8 (A.add i 1, k + 1, lost, DD, MX) [0, 1, 2, 3, 4] ⟨hk, hu2, u3, hl3, hup, u6⟩ hms ?_;exact ⟨by decide, Z2n, ⟨rfl, rfl, rfl, rfl, rfl, trivial⟩, ⟨rfl, rfl, rfl, rfl, rfl, trivial⟩, rfl, rfl⟩
 have hDl : DD.length = ms.length := u5.len;have hMl : MX.length = nm := by rw [u6, List.length_map, hDl]; omega
 have hFl : FL.length = fn := by rw [hF, List.length_map]; omega
 have eM : A.eqN nm (A.len MX) := Ze hA hMl;have eF : A.eqN fn (A.len FL) := Ze hA hFl;have hjD := u5.jok hjk;have hio : (Z6 DD).length + (DD.filter fun m => decide (m.kind = 2)).length <= 5 := Nat.le_trans (Z14t DD) (by omega);refine Z2w Z0 hA hS [] ?_;cbv;refine bm (fun c => absurd (hyes c) hk) (fun _ => ?_);cbv;refine Z1a hA [2, 3] ?_;cbv
 repeat (first | refine ⟨eM, ?_⟩ | refine ⟨eF, ?_⟩)
 refine Z7 ?_;cbv;refine Z4 hS [.b 0 0, I 1, I 4] [0] [pot x1] rfl rfl rfl rfl rfl rfl rfl rfl (by decide) ⟨rfl, trivial⟩ (Zvc x1 1 4 (by omega) _ fun b x2 => ?_)
 cases b with
 | false =>
  have hend := hq ⟨ins, first, DD⟩ FL MX x2 hjD hio hF u6;refine Z3 Z0 hA hS ?_;cbv;exact Z2 [0] (by decide) Z2n (H' := [pot x2]) (d' := .agg [I ins, .sl 1 FL, .sl 5 MX]) ⟨rfl, trivial⟩ rfl (Z1 hend)
 | true =>
  have hfls : A.fits .i64 (A.sub (A.oi (A.len FL)) 1) := Z14 hA (by rw [Z24 hA, Z5a hA hFl]) (by omega);have hfle : A.sub (A.oi (A.len FL)) 1 = (first.length : Int) - 1 := by rw [Z24 hA, Z5a hA hFl, hfn]
  have hfu : A.sub (A.oi (A.len FL)) 1 <= 1000000000000 := by rw [hfle]; omega
  have hvf : ∀ v : Int, 0 <= v -> (v <= A.sub (A.oi (A.len FL)) 1 ∨ v = 0) -> v < (first.length : Int) := fun v h0 h => by rw [hfle] at h; omega
  refine Z3 Z0 hA hS ?_;cbv;refine Z16 Z0 hA hS [0, 1, 2, 3, 4, 5, 7, 6, 8, 9, 10, 11] rfl rfl fun Dk hD => ?_;cbv;refine ⟨hfls, ?_⟩;refine Zq hA hD [.b 0 0, I (A.sub (A.oi (A.len FL)) 1)] [0] [pot x2] rfl rfl rfl rfl rfl rfl rfl rfl rfl rfl rfl (by decide) ⟨rfl, trivial⟩ (Zj0 x2 _ hfu _ fun v x3 hv1 hv2 => ⟨by cbv; repeat' (first | exact trivial | refine ⟨?_, ?_⟩), Zx Z0 hA hD ?_⟩);cbv;refine Zq hA hD [.b 0 0, I 3] [0] [pot x3] rfl rfl rfl rfl rfl rfl rfl rfl rfl rfl rfl (by decide) ⟨rfl, trivial⟩ (Zj0 x3 3 (by omega) _ fun w x4 hw1 hw2 => ⟨by cbv; repeat' (first | exact trivial | refine ⟨?_, ?_⟩), Zx Z0 hA hD ?_⟩);cbv;refine Zq hA hD [I v, I w, I 3] [] [] rfl rfl rfl rfl rfl rfl rfl rfl rfl rfl rfl (by decide) trivial (Zt6 v w 3 _ ⟨by cbv; repeat' (first | exact trivial | refine ⟨?_, ?_⟩), Zx Z0 hA hD ?_⟩);cbv;refine Zq hA hD [.agg [I ins, .sl 1 FL, .sl 5 MX], mvD (Zci v w 3)] [] [] rfl rfl rfl rfl rfl rfl rfl rfl rfl rfl rfl (by decide) trivial (Zql ins FL MX (Zci v w 3) nm hMl (by omega) _ fun ML' hML' => ⟨by cbv; repeat' (first | exact trivial | refine ⟨?_, ?_⟩), Zx Z0 hA hD ?_⟩);have hend := hq ⟨ins, first, DD ++ [Zci v w 3]⟩ FL ML' x4 (hjD.count (by omega) hv1 (hvf v hv1 hv2) hw1 (by omega) (by decide)) (by
   have := Z14h DD v w 3
   show (Z6 (DD ++ [Zci v w 3])).length + ((DD ++ [Zci v w 3]).filter fun m => decide (m.kind = 2)).length <= 5
   omega) hF (by rw [hML', u6, List.map_append]; rfl)
  cbv;exact Z2 [0] (by decide) Z2n (H' := [pot x4]) (d' := .agg [I ins, .sl 1 FL, .sl 5 ML']) ⟨rfl, trivial⟩ rfl (Z1 hend)
end Go.Proofs.Ytecfpfhkicapeaa

namespace Go.Batch
def minK (z : Int) (l : List Int) (k : Nat) : Int := (l.take k).foldl min z
def maxK (z : Int) (l : List Int) (k : Nat) : Int := (l.take k).foldl max z
theorem Z13c {z : Int} {l : List Int} {k : Nat} {v : Int} (h : l[k]? = some v) : minK z l (k + 1) = min (minK z l k) v := by
 unfold minK; rw [List.take_add_one, h, List.foldl_append]; rfl
theorem Z13d {z : Int} {l : List Int} {k : Nat} {v : Int} (h : l[k]? = some v) : maxK z l (k + 1) = max (maxK z l k) v := by
 unfold maxK; rw [List.take_add_one, h, List.foldl_append]; rfl
theorem Z144 {z : Int} {l : List Int} (h : l[0]? = some z) : (minK z l l.length, maxK z l l.length) = Zs l := by
 cases l with
 | nil => simp at h
 | cons x l =>
  simp at h; subst h;unfold minK maxK Zs Z6a Z80;rw [List.take_length, List.foldl_cons, List.foldl_cons];simp
theorem Z13t {α : Type} {p : α -> Bool} {l : List α} {k : Nat} {x : α} (h : l[k]? = some x) : (l.take (k + 1)).countP p = (l.take k).countP p + if p x = true then 1 else 0 := by
 rw [List.take_add_one, h, List.countP_append];simp only [Option.toList, List.countP_cons, List.countP_nil, Nat.zero_add]
theorem Z13y {α : Type} (p : α -> Bool) (l : List α) (k : Nat) : (l.take k).countP p <= l.length := Nat.le_trans List.countP_le_length (by rw [List.length_take]; omega)
end Go.Batch
namespace Go.Proofs.Ytecfpfhkicapeaa
open Go Go.Abs Go.Proofs Go.Batch
theorem Z14i (so al : Int) (v : Int) (hv : v = Z12t so al) (Q) (hq : Q (RA.ret (I v)) []) : CallA Try.prog 44 [I so, I al] [] Q := by
 obtain ⟨A, hA⟩ : ∃ A, A = ar := ⟨_, rfl⟩;unfold Z12t at hv;refine Z5 Z0 hA Try.func44 rfl rfl rfl rfl rfl fun S hS => ?_;cbv;refine bm (fun c => ?_) (fun c => ?_)
 ·rw [hv, if_pos (xeq hA c)] at hq;cbv;exact Z2 [] (by decide) Z9 (H' := []) (d' := I 1) trivial rfl (Z1 hq)
 ·rw [if_neg (Z2o hA c)] at hv;cbv;refine bm (fun c2 => ?_) (fun c2 => ?_)
  ·rw [hv, if_pos (xeq hA c2)] at hq;cbv;exact Z2 [] (by decide) Z9 (H' := []) (d' := I 2) trivial rfl (Z1 hq)
  ·rw [hv, if_neg (Z2o hA c2)] at hq;cbv;exact Z2 [] (by decide) Z9 (H' := []) (d' := I 3) trivial rfl (Z1 hq)
set_option maxRecDepth 40000 in
set_option maxHeartbeats 16000000 in
theorem Z149 (L : List D) (nums : List Int) (hL : L = nums.map I) (hl : L.length <= 9223372036854775807) (Q) (hq : Q (RA.ret (.v (.bool true))) []) : CallA Try.prog 11 [.sl 1 L] [] Q := by
 obtain ⟨A, hA⟩ : ∃ A, A = ar := ⟨_, rfl⟩;refine Z38 Z0 hA [9, 12] Try.func11 rfl rfl rfl rfl rfl fun S hS => ?_;cbv;refine Z4 hS [.sl 1 L] [] [] rfl rfl rfl rfl rfl rfl rfl rfl (by decide) trivial (Zvp L nums hL hl _ fun x0 => ?_);refine Z3 Z0 hA hS ?_;cbv;refine Z4 hS [.b 0 0] [0] [pot x0] rfl rfl rfl rfl rfl rfl rfl rfl (by decide) ⟨rfl, trivial⟩ (Z14u x0 _ fun j FL ML x1 hj hio hF hM => ?_);obtain ⟨N, hNj⟩ : ∃ N, IsI j.ins N := ⟨j.ins.toNat, ⟨by have := hj.i1; omega⟩⟩;have hN4 : 1 <= N /\ N <= 4 := by have h1 := hj.i1; have h2 := hj.i4; have := hNj.eq; omega
 have hjN : j.ins.toNat = N := by have := hNj.eq; omega
 obtain ⟨W, hW⟩ : ∃ W, W = preW j j.moves.length := ⟨_, rfl⟩;have hAll : AllW j N W := by rw [hW]; exact allW hj hjN
 have hWo : ∀ w ∈ W, WOk N w := fun w h => by rw [hW] at h; exact Z142 hj hjN (Nat.le_refl _) w h
 have hWm : W.length <= 1000000000 := by rw [hW]; exact Z12y hj hio (Nat.le_refl _)
 have hf : j.first.length <= 1152921504606846976 := by have := hj.f2; omega
 have hm : j.moves.length <= 1152921504606846976 := by have := hj.m10; omega
 have hc0 := Z81 hj;obtain ⟨st, hst⟩ : ∃ st, st = Zc j := ⟨_, rfl⟩;have hstV : st = stV j := by unfold stV; rw [if_neg (fun g => g hc0)]; exact hst
 obtain ⟨e, he⟩ : ∃ e, e = Za5 j := ⟨_, rfl⟩;have hee : e = if st = true then 0 else 9 := by
  rw [he]
  cases hs : st with
  | true => rw [Ztw hj (by rw [<- hst, hs])]; rfl
  | false => rw [Ztv hj (by rw [<- hst, hs])]; rfl
 have cWo := fun Q h => Z14p j hj hio j.ins rfl N hNj FL ML hF hM j.moves.length rfl Q h;have cSt := fun Q h => Zty j hf hm FL ML hF hM st hstV 0 hc0.symm Q h;obtain ⟨HL, hHL⟩ : ∃ HL, HL = okL e ((Z5w j).map fun l => D.sl 1 (l.map I)) := ⟨_, rfl⟩;obtain ⟨XL, hXL⟩ : ∃ XL, XL = okL e ((Z6b j).map I) := ⟨_, rfl⟩;obtain ⟨KL, hKL⟩ : ∃ KL, KL = okL e ((Z4c j).map rgD) := ⟨_, rfl⟩;have cHo := fun Q h => Z10g j hf hm FL ML hF hM e he HL hHL Q h;have cMi := fun Q h => Z10h j hf hm FL ML hF hM e he XL hXL Q h;have cRe := fun Q h => Zxe j hf hm FL ML hF hM e he KL hKL Q h;have cBi := fun Q h => Zho j (by have := hj.m10; omega) FL ML hM Q h;obtain ⟨NB, hNB⟩ : ∃ NB, NB = (Z6 j.moves).length := ⟨_, rfl⟩;have hNB4 : NB <= 4 := by rw [hNB]; exact hj.b4
 have hAm := fun (t b : Nat) (ti bi : Int) (lo hi : Int) (ee : Int) (h1 : ee = Zjd j ti bi) (h2 : (lo, hi) = Zym j ti bi) Q h => Z109 j hf hm FL ML hF hM ti bi ee h1 lo hi h2 Q h;obtain ⟨ins, hins⟩ : ∃ ins, ins = j.ins := ⟨_, rfl⟩;rw [<- hins] at cWo cSt cHo cMi cRe cBi hAm hNj ⊢;refine Z3 Z0 hA hS ?_;cbv;refine Z4 hS [.agg [I ins, .sl 1 FL, .sl 5 ML]] [] [] rfl rfl rfl rfl rfl rfl rfl rfl (by decide) trivial (cWo _ fun WL hWL => ?_);have hWl : WL.length = W.length := by rw [hWL, List.length_map, hW]
 rw [<- hW] at hWL;refine Z3 Z0 hA hS ?_;cbv;refine Z4 hS [.agg [I ins, .sl 1 FL, .sl 5 ML]] [] [] rfl rfl rfl rfl rfl rfl rfl rfl (by decide) trivial (cSt _ ?_);refine Z3 Z0 hA hS ?_;cbv;refine Z4 hS [.agg [I ins, .sl 1 FL, .sl 5 ML]] [] [] rfl rfl rfl rfl rfl rfl rfl rfl (by decide) trivial (cHo _ ?_);refine Z3 Z0 hA hS ?_;cbv;refine Z4 hS [.agg [I ins, .sl 1 FL, .sl 5 ML]] [] [] rfl rfl rfl rfl rfl rfl rfl rfl (by decide) trivial (cMi _ ?_);refine Z3 Z0 hA hS ?_;cbv;refine Z4 hS [.agg [I ins, .sl 1 FL, .sl 5 ML]] [] [] rfl rfl rfl rfl rfl rfl rfl rfl (by decide) trivial (cRe _ ?_);refine Z3 Z0 hA hS ?_;cbv;refine Z4 hS [.agg [I ins, .sl 1 FL, .sl 5 ML]] [] [] rfl rfl rfl rfl rfl rfl rfl rfl (by decide) trivial (cBi _ fun BL hBL => ?_);have hBl : BL.length = NB := by rw [hBL, hNB, List.length_map]
 refine Z3 Z0 hA hS ?_;cbv;have n00 : A.cmp .neq 0 0 = false := by subst hA; rfl
 cases hs : st with
 | false =>
  have he9 : e = 9 := by rw [hee, hs]; rfl
  have hW0 : W.length = 0 := by
   have h := hAll.stands;rw [<- hst, hs] at h;have : ¬ 0 < W.length := fun g => Bool.false_ne_true (h.2 g);omega
  have hH0 : HL.length = 0 := by rw [hHL, he9]; rfl
  have hX0 : XL.length = 0 := by rw [hXL, he9]; rfl
  have hK0 : KL.length = 0 := by rw [hKL, he9]; rfl
  have gW : A.bnot (A.beq false (A.cmp .gtr (A.oi (A.len WL)) 0)) = false := by rw [Z5a hA (hWl.trans hW0)]; subst hA; rfl
  have c99 : A.cmp .eql 9 9 = true := by subst hA; rfl
  have bn : A.bnot false = true := by subst hA; rfl
  have sf1 : A.fits .i64 (A.add (A.oi (A.len HL)) (A.oi (A.len XL))) := Z14 hA (by rw [Z5a hA hH0, Z5a hA hX0, Z58 hA]) (by decide);have sf2 : A.fits .i64 (A.add (A.add (A.oi (A.len HL)) (A.oi (A.len XL))) (A.oi (A.len KL))) := Z14 hA (by rw [Z5a hA hH0, Z5a hA hX0, Z5a hA hK0, Z58 hA, Z58 hA]) (by decide);have sz : A.cmp .eql (A.add (A.add (A.oi (A.len HL)) (A.oi (A.len XL))) (A.oi (A.len KL))) 0 = true := by rw [Z5a hA hH0, Z5a hA hX0, Z5a hA hK0]; subst hA; rfl
  rw [he9];clear hee he he9 hstV hs cHo cMi cRe cWo cSt cBi hAm;refine Z3h hS (Z60 (a := { env := [(5, .sl 2 WL), (6, .v (.bool false)), (7, I 0), (8, .sl 1 HL), (9, I 9), (10, .sl 1 XL), (11, I 9), (12, .sl 2 KL), (13, I 9), (14, .sl 1 BL)], H := [], nt := 339, dfs := [] }) [] ⟨by decide, Z9, trivial, ⟨rfl, rfl, rfl, rfl, rfl, rfl, rfl, rfl, rfl, rfl, trivial⟩, rfl, rfl⟩ ?_);refine Z7 (Zb hS (Z2w Z0 hA hS [] ?_));cbv;refine bmF n00 ?_;cbv;refine bmF gW ?_;cbv;refine bmT bn ?_;cbv;refine Z4j Z0 hA hS [0, 1, 2, 3, 4, 5, 6, 7, 8, 9, 10, 11, 12, 13, 14, 15, 16, 17, 18, 19, 20, 21, 22, 23] [24, 25, 26] rfl ?_;cbv;refine bmT c99 ?_;cbv;refine bmT c99 ?_;cbv;refine bmT c99 ?_;cbv;refine ⟨sf1, sf2, ?_⟩;refine Z26 hS (Zo7 91 (.v (.bool true)) rfl (WkD.eq (congrArg (fun b => D.v (.bool b)) sz)) (Z7 (Zii hS (Z3 Z0 hA hS ?_))));cbv;refine Zg hS (b := true) rfl rfl rfl rfl rfl rfl rfl rfl (fun _ => ⟨_, _, [], [], [], rfl, rfl, rfl, by decide, trivial, Zov _ ?_⟩) (fun h => absurd rfl h);refine Z3 Z0 hA hS ?_;cbv;exact Z2 [] (by decide) Z9 (H' := []) (d' := .v (.bool true)) trivial rfl (Z1 hq)
 | true =>
  have he0 : e = 0 := by rw [hee, hs]; rfl
  have hstd : Zc j = true := by rw [<- hst, hs]
  have hW0 : 0 < W.length := hAll.stands.1 hstd;rw [he0, Zd1] at hHL hXL hKL;have hHT := Z122 (j := j) (by rw [<- hins]; exact hNj) hNB hHL;have hRT := Z123 hNB hKL;have hHl := hHT.len;have hKl := hRT.len;have hXl : XL.length = N := by rw [hXL, List.length_map, Z6b, List.length_map, List.length_range, hjN]
  have gW : A.bnot (A.beq true (A.cmp .gtr (A.oi (A.len WL)) 0)) = false := by
   have h1 : A.cmp .gtr (A.oi (A.len WL)) 0 = true := by rw [Z5a hA hWl]; subst hA; simp [ar, Z25]; exact hW0
   rw [h1]; subst hA; rfl
  have bn : A.bnot true = false := by subst hA; rfl
  have hl1 : A.cmp .neq (A.oi (A.len HL)) ins = false := by rw [Z5a hA hHl, hNj.eq]; subst hA; simp [ar, Z25]
  have hl2 : A.cmp .neq (A.oi (A.len XL)) ins = false := by rw [Z5a hA hXl, hNj.eq]; subst hA; simp [ar, Z25]
  have hl3 : A.cmp .neq (A.oi (A.len KL)) (A.oi (A.len BL)) = false := by rw [Z5a hA hKl, Z5a hA hBl]; subst hA; simp [ar, Z25]
  rw [he0];clear hee he hstV hs cHo cMi cRe cWo cSt cBi;refine Z3h hS (Z1a hA [1] ?_);cbv;refine Z60 (a := { env := [(4, .cb (.agg [I ins, .sl 1 FL, .sl 5 ML]) 0), (5, .sl 2 WL), (6, .v (.bool true)), (7, I 0), (8, .sl 1 HL), (9, I 0), (10, .sl 1 XL), (11, I 0), (12, .sl 2 KL), (13, I 0), (14, .sl 1 BL)], H := [], nt := 339, dfs := [] }) [] ⟨by decide, Z9, trivial, ⟨rfl, rfl, rfl, rfl, rfl, rfl, rfl, rfl, rfl, rfl, rfl, trivial⟩, rfl, rfl⟩ ?_;refine Z7 (Zb hS (Z2w Z0 hA hS [] ?_));cbv;refine bmF n00 ?_;cbv;refine bmF gW ?_;cbv;refine bmF bn ?_;cbv;refine bmF n00 ?_;cbv;refine bmF n00 ?_;cbv;refine bmF n00 ?_;cbv;refine bmF hl1 ?_;cbv;refine bmF hl2 ?_;cbv;refine bmF hl3 ?_;cbv;obtain ⟨w0, hw0⟩ : ∃ w0, W[0]? = some w0 := ⟨_, List.getElem?_eq_getElem hW0⟩;have hwo0 := hWo w0 (List.mem_of_getElem? hw0);have hrest := fun b => hAll.rest hstd b;have hnote := fun (n b : Nat) (h1 : n < N) (h2 : b < 4) => hAll.note hstd h1 h2;have hmixed := fun (n : Nat) (h1 : n < N) => hAll.mixed hstd h1;have hholds := fun (n b : Nat) (h1 : n < N) (h2 : b < 4) => hAll.holds hstd h1 h2;have hnn := fun (w : Wd) (hw : w ∈ W) (n b : Nat) (h1 : n < N) (h2 : b < 4) => hAll.nn hw h1 h2;obtain ⟨W0L, hW0L⟩ : ∃ W0L, W0L = w0.lies.map I := ⟨_, rfl⟩;obtain ⟨W0H, hW0H⟩ : ∃ W0H, W0H = w0.has.map rowI := ⟨_, rfl⟩;have I00 : IsI 0 0 := ⟨rfl⟩;have iW0 := Z1b hA hWl I00 hW0;have gW0 := Z18 hA I00 (show WL[0]? = some (.agg [.sl 1 W0L, .sl 1 W0H]) by rw [hWL, List.getElem?_map, hw0, hW0L, hW0H]; rfl);have hW0l : W0L.length = 4 := by rw [hW0L, List.length_map, hwo0.l.len]
  clear hAll gW bn hl1 hl2 hl3;refine Zb hS ?_;refine Za (α := Int × Nat) (fun q => { env := [(4, .cb (.agg [I ins, .sl 1 FL, .sl 5 ML]) 0), (5, .sl 2 WL), (8, .sl 1 HL), (10, .sl 1 XL), (12, .sl 2 KL), (14, .sl 1 BL), (15, I q.1)], H := [], nt := 339, dfs := [] })
   (fun q => NB - q.2) (fun q => q.2 <= NB /\ IsI q.1 q.2) (0, 0) ⟨Nat.zero_le _, ⟨rfl⟩⟩ ?_ ?_
  ·exact Zf [] ⟨by decide, Z9, trivial, ⟨rfl, rfl, rfl, rfl, rfl, rfl, rfl, trivial⟩, rfl, rfl⟩
  rintro ⟨bI, b⟩ ⟨u1, u2⟩;dsimp only at u1 u2;have hyb : A.cmp .lss bI (A.oi (A.len BL)) = true -> b < NB := fun c => Z31 hA hBl u2 c;refine Z2w Z0 hA hS [] ?_;cbv;refine bm (fun c => ?_) (fun c => ?_)
  ·have hb := hyb c;have hfb := Zy hA u2 (by omega);have hu2 := Zz hA u2;have hms : NB - (b + 1) < NB - b := by omega
   obtain ⟨z, hz⟩ : ∃ z, z = w0.lies.getD b 0 := ⟨_, rfl⟩;obtain ⟨l, hl⟩ : ∃ l, l = W.map fun w => w.lies.getD b 0 := ⟨_, rfl⟩;have hl0 : l[0]? = some z := by rw [hl, List.getElem?_map, hw0, hz]; rfl
   have hll : l.length = W.length := by rw [hl, List.length_map]
   have iL0 := Z1b hA hW0l u2 (show b < 4 by omega);have gL0 := Z18 hA u2 (show W0L[b]? = some (I z) by rw [hW0L, List.getElem?_map, Z12l (by rw [hwo0.l.len]; omega), hz]; rfl);obtain ⟨r, hr1, hr2⟩ := hRT.row b hb;have hrr : r = Zs l := by
    unfold Z4c at hr1;rw [List.getElem?_map, List.getElem?_range (by omega)] at hr1;rw [hl, <- hrest b];exact (Option.some.inj hr1).symm
   have hrng := Z144 hl0;rw [hll, <- hrr] at hrng;obtain ⟨r1, r2⟩ := r;have iK := Z1b hA hKl u2 hb;have gK := Z18 hA u2 (show KL[b]? = some (.agg [I r1, I r2]) from hr2);clear hr1 hr2 hrr;cbv;refine Z16 Z0 hA hS [0, 1, 2, 3, 4, 5, 6, 7, 8, 9, 10, 11, 12, 13, 15, 14, 16] rfl rfl fun Dk hD => ?_;cbv;refine ⟨iW0, ⟨_, gW0, ?_⟩⟩;cbv;refine ⟨iL0, ⟨_, gL0, ?_⟩⟩;cbv;refine ⟨iW0, ⟨_, gW0, ?_⟩⟩;cbv;refine ⟨iL0, ⟨_, gL0, ?_⟩⟩;cbv;refine Zq hA hD [I z, I z] [] [] rfl rfl rfl rfl rfl rfl rfl rfl rfl rfl rfl (by decide) trivial (lTo z z _ ⟨by cbv; repeat' (first | exact trivial | exact Need.mk ⟨_, gW0, rfl⟩ | exact Need.mk ⟨_, gL0, rfl⟩ | refine ⟨?_, ?_⟩), Zx Z0 hA hD ?_⟩);cbv;refine Zb hS ?_;refine Za (α := Int × Nat × Int × Int) (fun q => { env := [(4, .cb (.agg [I ins, .sl 1 FL, .sl 5 ML]) 0), (5, .sl 2 WL), (8, .sl 1 HL), (10, .sl 1 XL), (12, .sl 2 KL), (14, .sl 1 BL), (15, I bI), (16, .b 0 0), (17, I q.1)], H := [.box (.agg [I q.2.2.1, I q.2.2.2])], nt := 339, dfs := [] })
    (fun q => W.length - q.2.1) (fun q => q.2.1 <= W.length /\ IsI q.1 q.2.1 /\ q.2.2.1 = minK z l q.2.1 /\ q.2.2.2 = maxK z l q.2.1) (0, 0, z, z) ⟨Nat.zero_le _, ⟨rfl⟩, rfl, rfl⟩ ?_ ?_
   ·exact Zf [0] ⟨by decide, Z9, ⟨rfl, trivial⟩, ⟨rfl, rfl, rfl, rfl, rfl, rfl, rfl, rfl, rfl, trivial⟩, rfl, rfl⟩
   rintro ⟨kI, k, lo, hi⟩ ⟨v1, v2, v3, v4⟩;dsimp only at v1 v2 v3 v4;have hyk : A.cmp .lss kI (A.oi (A.len WL)) = true -> k < W.length := fun c => Z31 hA hWl v2 c;have hnk : A.cmp .lss kI (A.oi (A.len WL)) = false -> k = W.length := fun c => by have := Z21 hA hWl v2 c; omega
   refine Z2w Z0 hA hS [] ?_;cbv;refine bm (fun c => ?_) (fun c => ?_)
   ·have hk := hyk c;obtain ⟨w, hw⟩ : ∃ w, W[k]? = some w := ⟨_, List.getElem?_eq_getElem hk⟩;have hwo := hWo w (List.mem_of_getElem? hw);obtain ⟨LL, hLL⟩ : ∃ LL, LL = w.lies.map I := ⟨_, rfl⟩;obtain ⟨GL, hGL⟩ : ∃ GL, GL = w.has.map rowI := ⟨_, rfl⟩;obtain ⟨v, hv⟩ : ∃ v, v = w.lies.getD b 0 := ⟨_, rfl⟩;have hLl : LL.length = 4 := by rw [hLL, List.length_map, hwo.l.len]
    have iW := Z1b hA hWl v2 hk;have gW := Z18 hA v2 (show WL[k]? = some (.agg [.sl 1 LL, .sl 1 GL]) by rw [hWL, List.getElem?_map, hw, hLL, hGL]; rfl);have iL := Z1b hA hLl u2 (show b < 4 by omega);have gL := Z18 hA u2 (show LL[b]? = some (I v) by rw [hLL, List.getElem?_map, Z12l (by rw [hwo.l.len]; omega), hv]; rfl);have hlk : l[k]? = some v := by rw [hl, List.getElem?_map, hw, hv]; rfl
    have h3 : A.min lo v = minK z l (k + 1) := by rw [Zir hA, Z13c hlk, v3]
    have h4 : A.max hi v = maxK z l (k + 1) := by rw [Zuq hA, Z13d hlk, v4]
    have hfk := Zy hA v2 (by omega);have hv2 := Zz hA v2;have hms2 : W.length - (k + 1) < W.length - k := by omega
    cbv;refine Z16 Z0 hA hS [0, 1, 2, 3, 4, 5, 6, 7, 8, 9, 10, 11, 12, 13, 14, 15, 16, 17, 18, 19, 20, 21, 22, 23] rfl rfl fun Dk2 hD2 => ?_;cbv;refine ⟨iW, ⟨_, gW, ?_⟩⟩;cbv;refine ⟨iL, ⟨_, gL, ?_⟩⟩;cbv;refine ⟨iW, ⟨_, gW, ?_⟩⟩;cbv;refine ⟨iL, ⟨_, gL, ?_⟩⟩;cbv;refine Zq hA hD2 [I (A.min lo v), I (A.max hi v)] [] [] rfl rfl rfl rfl rfl rfl rfl rfl rfl rfl rfl (by decide) trivial (lTo (A.min lo v) (A.max hi v) _ ⟨by cbv; repeat' (first | exact trivial | exact Need.mk ⟨_, gW, rfl⟩ | exact Need.mk ⟨_, gL, rfl⟩ | refine ⟨?_, ?_⟩), Zx Z0 hA hD2 ?_⟩);cbv;refine ⟨hfk, ?_⟩;refine Z8 (A.add kI 1, k + 1, A.min lo v, A.max hi v) [0] ⟨hk, hv2, h3, h4⟩ hms2 ?_;exact ⟨by decide, Z9, ⟨rfl, trivial⟩, ⟨rfl, rfl, rfl, rfl, rfl, rfl, rfl, rfl, rfl, trivial⟩, rfl, rfl⟩
   ·have hkW := hnk c;rw [hkW] at v3 v4;have h1 : lo = r1 := by rw [v3]; exact congrArg Prod.fst hrng
    have h2 : hi = r2 := by rw [v4]; exact congrArg Prod.snd hrng
    rw [h1, h2];have hne : A.bnot (A.leq [r1, r2] [r1, r2]) = false := by subst hA; simp [ar]
    cbv;refine Z7 ?_;cbv;refine Z16 Z0 hA hS [0, 1, 2, 3, 4, 5] rfl rfl fun Dk2 hD2 => ?_;cbv;refine ⟨iK, ⟨_, gK, ?_⟩⟩;cbv;refine FlatEq.mk ⟨[r1, r2], [r1, r2], rfl, rfl, rfl, rfl, ?_⟩;cbv;refine bmF hne ?_;cbv;refine ⟨hfb, ?_⟩;refine Z8 (A.add bI 1, b + 1) [] ⟨hb, hu2⟩ hms ?_;exact ⟨by decide, Z9, trivial, ⟨rfl, rfl, rfl, rfl, rfl, rfl, rfl, trivial⟩, rfl, rfl⟩
  clear hrest hRT hKl hyb u1 u2;cbv;refine Z7 ?_;cbv;refine Zb hS ?_;refine Za (α := Int × Nat) (fun q => { env := [(4, .cb (.agg [I ins, .sl 1 FL, .sl 5 ML]) 0), (5, .sl 2 WL), (8, .sl 1 HL), (10, .sl 1 XL), (14, .sl 1 BL), (18, I q.1)], H := [], nt := 339, dfs := [] })
   (fun q => N - q.2) (fun q => q.2 <= N /\ IsI q.1 q.2) (0, 0) ⟨Nat.zero_le _, ⟨rfl⟩⟩ ?_ ?_
  ·exact Zf [] ⟨by decide, Z9, trivial, ⟨rfl, rfl, rfl, rfl, rfl, rfl, trivial⟩, rfl, rfl⟩
  rintro ⟨nI, n⟩ ⟨u1, u2⟩;dsimp only at u1 u2;have hyn : A.cmp .lss nI ins = true -> n < N := fun c => by have := xlt hA c; have := hNj.eq; have := u2.eq; omega
  refine Z2w Z0 hA hS [] ?_;cbv;refine bm (fun c => ?_) (fun c => ?_)
  ·have hn := hyn c;have hfn := Zy hA u2 (by omega);have hu2 := Zz hA u2;have hms : N - (n + 1) < N - n := by omega
   obtain ⟨R, hR1, hR2, hR3⟩ := hHT.row n hn;have iH := Z1b hA hHl u2 hn;have gH := Z18 hA u2 hR1;have hlR : A.cmp .neq (A.oi (A.len R)) (A.oi (A.len BL)) = false := by rw [Z5a hA hR2, Z5a hA hBl]; subst hA; simp [ar, Z25]
   obtain ⟨mv, hmv⟩ : ∃ mv, mv = Z2i (Zs ((Zd j (Z29 n) 0).map fun s => Z43 s.2)) := ⟨_, rfl⟩;have iX := Z1b hA hXl u2 hn;have gX := Z18 hA u2 (show XL[n]? = some (I mv) by rw [hXL, List.getElem?_map, Z6b, List.getElem?_map, List.getElem?_range (by omega), hmv]; rfl);obtain ⟨pm, hpm⟩ : ∃ pm : Wd -> Bool, pm = fun w => decide (1 < Z8z (fun b => (w.has.getD n []).getD b 0) NB) := ⟨_, rfl⟩;have hmt : mv = Z12t (W.countP pm : Nat) (W.length : Nat) := by rw [hmv, hmixed n hn, hpm, hNB]
   obtain ⟨h0r, h0r1, h0r2, h0r3⟩ := hwo0.at_ hn;clear hmv;cbv;refine ⟨iH, ⟨_, gH, ?_⟩⟩;cbv;refine bmF hlR ?_;cbv;refine Zb hS ?_;refine Za (α := Int × Nat × Int) (fun q => { env := [(4, .cb (.agg [I ins, .sl 1 FL, .sl 5 ML]) 0), (5, .sl 2 WL), (8, .sl 1 HL), (10, .sl 1 XL), (14, .sl 1 BL), (18, I nI), (19, I q.2.2), (20, I q.1)], H := [], nt := 339, dfs := [] })
    (fun q => W.length - q.2.1) (fun q => q.2.1 <= W.length /\ IsI q.1 q.2.1 /\ IsI q.2.2 ((W.take q.2.1).countP pm)) (0, 0, 0) ⟨Nat.zero_le _, ⟨rfl⟩, ⟨rfl⟩⟩ ?_ ?_
   ·exact Zf [] ⟨by decide, Z9, trivial, ⟨rfl, rfl, rfl, rfl, rfl, rfl, rfl, rfl, trivial⟩, rfl, rfl⟩
   rintro ⟨kI, k, mx⟩ ⟨v1, v2, v3⟩;dsimp only at v1 v2 v3;have hyk : A.cmp .lss kI (A.oi (A.len WL)) = true -> k < W.length := fun c => Z31 hA hWl v2 c;have hnk : A.cmp .lss kI (A.oi (A.len WL)) = false -> k = W.length := fun c => by have := Z21 hA hWl v2 c; omega
   refine Z2w Z0 hA hS [] ?_;cbv;refine bm (fun c => ?_) (fun c => ?_)
   ·have hk := hyk c;obtain ⟨w, hw⟩ : ∃ w, W[k]? = some w := ⟨_, List.getElem?_eq_getElem hk⟩;have hwm := List.mem_of_getElem? hw;have hwo := hWo w hwm;obtain ⟨r, hr1, hr2, hr3⟩ := hwo.at_ hn;obtain ⟨LL, hLL⟩ : ∃ LL, LL = w.lies.map I := ⟨_, rfl⟩;obtain ⟨GL, hGL⟩ : ∃ GL, GL = w.has.map rowI := ⟨_, rfl⟩;obtain ⟨RL, hRL⟩ : ∃ RL, RL = r.map I := ⟨_, rfl⟩;have hGl : GL.length = N := by rw [hGL, List.length_map, hwo.len]
    have hRl : RL.length = 4 := by rw [hRL, List.length_map, hr3]
    have iW := Z1b hA hWl v2 hk;have gW := Z18 hA v2 (show WL[k]? = some (.agg [.sl 1 LL, .sl 1 GL]) by rw [hWL, List.getElem?_map, hw, hLL, hGL]; rfl);have iG := Z1b hA hGl u2 hn;have gG := Z18 hA u2 (show GL[n]? = some (.sl 1 RL) by rw [hGL, List.getElem?_map, hr1, hRL]; rfl);have hcn := Z13t (p := pm) hw;have hcl := Z13y pm W (k + 1);have hcl0 := Z13y pm W k;have hfk := Zy hA v2 (by omega);have hv2 := Zz hA v2;have hms2 : W.length - (k + 1) < W.length - k := by omega
    have hmx1 : pm w = true -> IsI (A.add mx 1) ((W.take (k + 1)).countP pm) := fun h => ⟨by rw [hcn, if_pos h, Z58 hA, v3.eq]; omega⟩;have hmx0 : pm w = false -> IsI mx ((W.take (k + 1)).countP pm) := fun h => ⟨by rw [hcn, if_neg (by rw [h]; exact Bool.false_ne_true), Nat.add_zero]; exact v3.eq⟩;have hmf : A.fits .i64 (A.add mx 1) := Z14 hA (Z58 hA mx 1) (by have := v3.eq; omega);obtain ⟨f, hf'⟩ : ∃ f : Nat -> Int, f = fun b => r.getD b 0 := ⟨_, rfl⟩;have hpw : pm w = decide (1 < Z8z f NB) := by rw [hpm, hf']; show decide _ = _; rw [hr2]
    clear hcn;cbv;refine Zb hS ?_;refine Za (α := Int × Nat × Int) (fun q => { env := [(4, .cb (.agg [I ins, .sl 1 FL, .sl 5 ML]) 0), (5, .sl 2 WL), (8, .sl 1 HL), (10, .sl 1 XL), (14, .sl 1 BL), (18, I nI), (19, I mx), (20, I kI), (21, I q.2.2), (22, I q.1)], H := [], nt := 339, dfs := [] })
     (fun q => NB - q.2.1) (fun q => q.2.1 <= NB /\ IsI q.1 q.2.1 /\ IsI q.2.2 (Z8z f q.2.1)) (0, 0, 0) ⟨Nat.zero_le _, ⟨rfl⟩, ⟨rfl⟩⟩ ?_ ?_
    ·exact Zf [] ⟨by decide, Z9, trivial, ⟨rfl, rfl, rfl, rfl, rfl, rfl, rfl, rfl, rfl, rfl, trivial⟩, rfl, rfl⟩
    rintro ⟨bI, b, my⟩ ⟨w1, w2, w3⟩;dsimp only at w1 w2 w3;have hyb : A.cmp .lss bI (A.oi (A.len BL)) = true -> b < NB := fun c => Z31 hA hBl w2 c;have hnb : A.cmp .lss bI (A.oi (A.len BL)) = false -> b = NB := fun c => by have := Z21 hA hBl w2 c; omega
    refine Z2w Z0 hA hS [] ?_;cbv;refine bm (fun c => ?_) (fun c => ?_)
    ·have hb := hyb c;obtain ⟨v, hv⟩ : ∃ v, v = r.getD b 0 := ⟨_, rfl⟩;have iR := Z1b hA hRl w2 (show b < 4 by omega);have gR := Z18 hA w2 (show RL[b]? = some (I v) by rw [hRL, List.getElem?_map, Z12l (by omega), hv]; rfl);have hv0 : 0 <= v := by rw [hv, <- hr2]; exact (hwo.b n b hn (by omega)).1
     have hmb : Z8z f (b + 1) = Z8z f b + if 0 < v then 1 else 0 := by rw [hv]; show Z8z f b + (if 0 < f b then 1 else 0) = _; rw [hf']
     have hmle := Z13k f (b + 1);have hm1 : A.add my (A.min 1 v) = ((Z8z f (b + 1) : Nat) : Int) := by
      rw [Z58 hA, Zir hA, w3.eq, hmb]
      by_cases h : 0 < v
      ·rw [if_pos h]; omega
      ·rw [if_neg h]; omega
     have hmI : IsI (A.add my (A.min 1 v)) (Z8z f (b + 1)) := ⟨hm1⟩;have hmF : A.fits .i64 (A.add my (A.min 1 v)) := Z14 hA hm1 (by omega);have hfb := Zy hA w2 (by omega);have hw2 := Zz hA w2;have hms3 : NB - (b + 1) < NB - b := by omega
     cbv;refine ⟨iW, ⟨_, gW, ?_⟩⟩;cbv;refine ⟨iG, ⟨_, gG, ?_⟩⟩;cbv;refine ⟨iR, ⟨_, gR, ?_⟩⟩;cbv;refine ⟨hmF, hfb, ?_⟩;refine Z8 (A.add bI 1, b + 1, A.add my (A.min 1 v)) [] ⟨hb, hw2, hmI⟩ hms3 ?_;exact ⟨by decide, Z9, trivial, ⟨rfl, rfl, rfl, rfl, rfl, rfl, rfl, rfl, rfl, rfl, trivial⟩, rfl, rfl⟩
    have hbN := hnb c;rw [hbN] at w3;have hg1 : A.cmp .gtr my 1 = true -> IsI (A.add mx 1) ((W.take (k + 1)).countP pm) := fun c => hmx1 (by
     rw [hpw]
     have h := w3.eq
     subst hA
     simp [ar, Z25] at c
     exact decide_eq_true (by omega))
    have hg0 : A.cmp .gtr my 1 = false -> IsI mx ((W.take (k + 1)).countP pm) := fun c => hmx0 (by
     rw [hpw]
     have h := w3.eq
     subst hA
     simp [ar, Z25] at c
     exact decide_eq_false (by omega))
    cbv;refine Z7 ?_;cbv;refine bm (fun c => ?_) (fun c => ?_)
    ·have hI := hg1 c;cbv;refine ⟨hmf, hfk, ?_⟩;refine Z8 (A.add kI 1, k + 1, A.add mx 1) [] ⟨hk, hv2, hI⟩ hms2 ?_;exact ⟨by decide, Z9, trivial, ⟨rfl, rfl, rfl, rfl, rfl, rfl, rfl, rfl, trivial⟩, rfl, rfl⟩
    ·have hI := hg0 c;cbv;refine ⟨hfk, ?_⟩;refine Z8 (A.add kI 1, k + 1, mx) [] ⟨hk, hv2, hI⟩ hms2 ?_;exact ⟨by decide, Z9, trivial, ⟨rfl, rfl, rfl, rfl, rfl, rfl, rfl, rfl, trivial⟩, rfl, rfl⟩
   have hkW := hnk c;have hmxt : mv = Z12t mx (A.oi (A.len WL)) := by rw [v3.eq, hkW, List.take_length, Z5a hA hWl]; exact hmt
   have hmvv : A.cmp .neq mv mv = false := by subst hA; simp [ar, Z25]
   have hW0Hl : W0H.length = N := by rw [hW0H, List.length_map, hwo0.len]
   obtain ⟨R0, hR0⟩ : ∃ R0, R0 = h0r.map I := ⟨_, rfl⟩;have hR0l : R0.length = 4 := by rw [hR0, List.length_map, h0r3]
   have iG0 := Z1b hA hW0Hl u2 hn;have gG0 := Z18 hA u2 (show W0H[n]? = some (.sl 1 R0) by rw [hW0H, List.getElem?_map, h0r1, hR0]; rfl);clear hyk hnk v1 v2 v3 hmt hmixed;cbv;refine Z7 ?_;cbv;refine Z16 Z0 hA hS [0, 1, 2, 3, 4, 5, 6, 7, 8] rfl rfl fun Dk hD => ?_;cbv;refine ⟨iX, ⟨_, gX, ?_⟩⟩;cbv;refine Zq hA hD [I mx, I (A.oi (A.len WL))] [] [] rfl rfl rfl rfl rfl rfl rfl rfl rfl rfl rfl (by decide) trivial (Z14i mx (A.oi (A.len WL)) mv hmxt _ ⟨by cbv; repeat' (first | exact trivial | exact Need.mk ⟨_, gX, rfl⟩ | refine ⟨?_, ?_⟩), Zx Z0 hA hD ?_⟩);cbv;refine bmF hmvv ?_;cbv;refine Zb hS ?_;refine Za (α := Int × Nat) (fun q => { env := [(4, .cb (.agg [I ins, .sl 1 FL, .sl 5 ML]) 0), (5, .sl 2 WL), (8, .sl 1 HL), (10, .sl 1 XL), (14, .sl 1 BL), (18, I nI), (23, I q.1)], H := [], nt := 339, dfs := [] })
    (fun q => NB - q.2) (fun q => q.2 <= NB /\ IsI q.1 q.2) (0, 0) ⟨Nat.zero_le _, ⟨rfl⟩⟩ ?_ ?_
   ·exact Zf [] ⟨by decide, Z9, trivial, ⟨rfl, rfl, rfl, rfl, rfl, rfl, rfl, trivial⟩, rfl, rfl⟩
   rintro ⟨bI, b⟩ ⟨w1, w2⟩;dsimp only at w1 w2;have hyb : A.cmp .lss bI (A.oi (A.len BL)) = true -> b < NB := fun c => Z31 hA hBl w2 c;refine Z2w Z0 hA hS [] ?_;cbv;refine bm (fun c => ?_) (fun c => ?_)
   ·have hb := hyb c;have hfb := Zy hA w2 (by omega);have hw2 := Zz hA w2;have hms3 : NB - (b + 1) < NB - b := by omega
    have hb4 : b < 4 := by omega
    obtain ⟨z, hz⟩ : ∃ z, z = h0r.getD b 0 := ⟨_, rfl⟩;obtain ⟨l, hl⟩ : ∃ l, l = W.map fun w => (w.has.getD n []).getD b 0 := ⟨_, rfl⟩;have hl0 : l[0]? = some z := by rw [hl, List.getElem?_map, hw0, hz, <- h0r2]; rfl
    have hll : l.length = W.length := by rw [hl, List.length_map]
    have iR0 := Z1b hA hR0l w2 hb4;have gR0 := Z18 hA w2 (show R0[b]? = some (I z) by rw [hR0, List.getElem?_map, Z12l (by omega), hz]; rfl);have hrng := Z144 hl0;obtain ⟨r1, hr1⟩ : ∃ r1, r1 = (Zs l).1 := ⟨_, rfl⟩;obtain ⟨r2, hr2⟩ : ∃ r2, r2 = (Zs l).2 := ⟨_, rfl⟩;have hnt : (r1, r2) = Z4d j (Z2v (n : Int) b) := by rw [hnote n b hn hb4, <- hl, hr1, hr2]
    obtain ⟨vd, hvd⟩ : ∃ vd, vd = Z2i (Z4d j (Z2v (n : Int) b)) := ⟨_, rfl⟩;obtain ⟨ph, hph⟩ : ∃ ph : Wd -> Bool, ph = fun w => decide (0 < (w.has.getD n []).getD b 0) := ⟨_, rfl⟩;have hvt : vd = Z12t (W.countP ph : Nat) (W.length : Nat) := by rw [hvd, hholds n b hn hb4, hph]
    have iRb := Z1b hA hR2 w2 hb;have gRb := Z18 hA w2 (show R[b]? = some (I vd) by rw [hvd]; exact hR3 b hb);have hbn : bI.toNat = b := by have := w2.eq; omega
    have hU : Zwa j nI bI := by have h1 := u2.eq; have h2 := w2.eq; have h3 := hNj.eq; rw [hins] at h3; unfold Zwa; rw [<- hNB]; omega
    have hE0 : Zjd j nI bI = 0 := by unfold Zjd; rw [if_neg (fun g => g hc0), if_neg (fun g => g hU), if_pos hstd]
    have hAmt := hAm n b nI bI r1 r2 0 hE0.symm (by unfold Zym; rw [if_pos hE0, hbn, u2.eq]; exact hnt);clear hnt hvd;cbv;refine Z16 Z0 hA hS [0, 1, 2, 3, 4, 5, 6, 7, 8, 9, 10, 11, 12, 13, 14, 15, 16, 17, 18, 19, 21, 20, 22, 23] rfl rfl fun Dk hD => ?_;cbv;refine ⟨iW0, ⟨_, gW0, ?_⟩⟩;cbv;refine ⟨iG0, ⟨_, gG0, ?_⟩⟩;cbv;refine ⟨iR0, ⟨_, gR0, ?_⟩⟩;cbv;refine ⟨iW0, ⟨_, gW0, ?_⟩⟩;cbv;refine ⟨iG0, ⟨_, gG0, ?_⟩⟩;cbv;refine ⟨iR0, ⟨_, gR0, ?_⟩⟩;cbv;refine Zq hA hD [I z, I z] [] [] rfl rfl rfl rfl rfl rfl rfl rfl rfl rfl rfl (by decide) trivial (lTo z z _ ⟨by cbv; repeat' (first | exact trivial | exact Need.mk ⟨_, gW0, rfl⟩ | exact Need.mk ⟨_, gG0, rfl⟩ | exact Need.mk ⟨_, gR0, rfl⟩ | refine ⟨?_, ?_⟩), Zx Z0 hA hD ?_⟩);cbv;refine Zb hS ?_;refine Za (α := Int × Nat × Int × Int × Int) (fun q => { env := [(4, .cb (.agg [I ins, .sl 1 FL, .sl 5 ML]) 0), (5, .sl 2 WL), (8, .sl 1 HL), (10, .sl 1 XL), (14, .sl 1 BL), (18, I nI), (23, I bI), (24, .b 0 0), (25, I q.2.2.2.2), (26, I q.1)], H := [.box (.agg [I q.2.2.1, I q.2.2.2.1])], nt := 339, dfs := [] })
     (fun q => W.length - q.2.1) (fun q => q.2.1 <= W.length /\ IsI q.1 q.2.1 /\ q.2.2.1 = minK z l q.2.1 /\ q.2.2.2.1 = maxK z l q.2.1 /\ IsI q.2.2.2.2 ((W.take q.2.1).countP ph)) (0, 0, z, z, 0) ⟨Nat.zero_le _, ⟨rfl⟩, rfl, rfl, ⟨rfl⟩⟩ ?_ ?_
    ·exact Zf [0] ⟨by decide, Z9, ⟨rfl, trivial⟩, ⟨rfl, rfl, rfl, rfl, rfl, rfl, rfl, rfl, rfl, rfl, trivial⟩, rfl, rfl⟩
    rintro ⟨kI, k, lo, hi, so⟩ ⟨v1, v2, v3, v4, v5⟩;dsimp only at v1 v2 v3 v4 v5;have hyk : A.cmp .lss kI (A.oi (A.len WL)) = true -> k < W.length := fun c => Z31 hA hWl v2 c;have hnk : A.cmp .lss kI (A.oi (A.len WL)) = false -> k = W.length := fun c => by have := Z21 hA hWl v2 c; omega
    refine Z2w Z0 hA hS [] ?_;cbv;refine bm (fun c => ?_) (fun c => ?_)
    ·have hk := hyk c;obtain ⟨w, hw⟩ : ∃ w, W[k]? = some w := ⟨_, List.getElem?_eq_getElem hk⟩;have hwo := hWo w (List.mem_of_getElem? hw);obtain ⟨r, hra, hrb, hrc⟩ := hwo.at_ hn;obtain ⟨LL, hLL⟩ : ∃ LL, LL = w.lies.map I := ⟨_, rfl⟩;obtain ⟨GL, hGL⟩ : ∃ GL, GL = w.has.map rowI := ⟨_, rfl⟩;obtain ⟨RL, hRL⟩ : ∃ RL, RL = r.map I := ⟨_, rfl⟩;obtain ⟨v, hv⟩ : ∃ v, v = r.getD b 0 := ⟨_, rfl⟩;have hGl : GL.length = N := by rw [hGL, List.length_map, hwo.len]
     have hRl : RL.length = 4 := by rw [hRL, List.length_map, hrc]
     have iW := Z1b hA hWl v2 hk;have gW := Z18 hA v2 (show WL[k]? = some (.agg [.sl 1 LL, .sl 1 GL]) by rw [hWL, List.getElem?_map, hw, hLL, hGL]; rfl);have iG := Z1b hA hGl u2 hn;have gG := Z18 hA u2 (show GL[n]? = some (.sl 1 RL) by rw [hGL, List.getElem?_map, hra, hRL]; rfl);have iR := Z1b hA hRl w2 hb4;have gR := Z18 hA w2 (show RL[b]? = some (I v) by rw [hRL, List.getElem?_map, Z12l (by omega), hv]; rfl);have hv0 : 0 <= v := by rw [hv, <- hrb]; exact (hwo.b n b hn hb4).1
     have hlk : l[k]? = some v := by rw [hl, List.getElem?_map, hw, hv, <- hrb]; rfl
     have h3 : A.min lo v = minK z l (k + 1) := by rw [Zir hA, Z13c hlk, v3]
     have h4 : A.max hi v = maxK z l (k + 1) := by rw [Zuq hA, Z13d hlk, v4]
     have hcn := Z13t (p := ph) hw;have hcl := Z13y ph W (k + 1);have hpv : ph w = decide (0 < v) := by rw [hph, hv, <- hrb]
     have h5 : A.add so (A.min 1 v) = (((W.take (k + 1)).countP ph : Nat) : Int) := by
      rw [Z58 hA, Zir hA, v5.eq, hcn, hpv]
      by_cases h : 0 < v
      ·rw [if_pos (decide_eq_true h)]; omega
      ·rw [if_neg (by rw [decide_eq_false h]; exact Bool.false_ne_true)]; omega
     have h5I : IsI (A.add so (A.min 1 v)) ((W.take (k + 1)).countP ph) := ⟨h5⟩;have h5F : A.fits .i64 (A.add so (A.min 1 v)) := Z14 hA h5 (by omega);have hfk := Zy hA v2 (by omega);have hv2 := Zz hA v2;have hms4 : W.length - (k + 1) < W.length - k := by omega
     clear hcn h5;cbv;refine Z16 Z0 hA hS [0, 1, 2, 3, 4, 5, 6, 7, 8, 9, 10, 11, 12, 13, 14, 15, 16, 17, 18, 19, 20, 21, 22, 23, 24, 25, 26, 27, 28, 29] rfl rfl fun Dk2 hD2 => ?_;cbv;refine ⟨iW, ⟨_, gW, ?_⟩⟩;cbv;refine ⟨iG, ⟨_, gG, ?_⟩⟩;cbv;refine ⟨iR, ⟨_, gR, ?_⟩⟩;cbv;refine ⟨iW, ⟨_, gW, ?_⟩⟩;cbv;refine ⟨iG, ⟨_, gG, ?_⟩⟩;cbv;refine ⟨iR, ⟨_, gR, ?_⟩⟩;cbv;refine Zq hA hD2 [I (A.min lo v), I (A.max hi v)] [] [] rfl rfl rfl rfl rfl rfl rfl rfl rfl rfl rfl (by decide) trivial (lTo (A.min lo v) (A.max hi v) _ ⟨by cbv; repeat' (first | exact trivial | exact Need.mk ⟨_, gW, rfl⟩ | exact Need.mk ⟨_, gG, rfl⟩ | exact Need.mk ⟨_, gR, rfl⟩ | refine ⟨?_, ?_⟩), Zx Z0 hA hD2 ?_⟩);cbv;refine ⟨iW, ⟨_, gW, ?_⟩⟩;cbv;refine ⟨iG, ⟨_, gG, ?_⟩⟩;cbv;refine ⟨iR, ⟨_, gR, ?_⟩⟩;cbv;refine ⟨h5F, hfk, ?_⟩;refine Z8 (A.add kI 1, k + 1, A.min lo v, A.max hi v, A.add so (A.min 1 v)) [0] ⟨hk, hv2, h3, h4, h5I⟩ hms4 ?_;exact ⟨by decide, Z9, ⟨rfl, trivial⟩, ⟨rfl, rfl, rfl, rfl, rfl, rfl, rfl, rfl, rfl, rfl, trivial⟩, rfl, rfl⟩
    have hkW := hnk c;rw [hkW] at v3 v4 v5;rw [<- hll] at v3 v4;have h1 : lo = r1 := by rw [v3, hr1]; exact congrArg Prod.fst hrng
    have h2 : hi = r2 := by rw [v4, hr2]; exact congrArg Prod.snd hrng
    have hvtt : vd = Z12t so (A.oi (A.len WL)) := by rw [v5.eq, List.take_length, Z5a hA hWl]; exact hvt
    rw [h1, h2];have hne : A.bnot (A.leq [r1, r2] [r1, r2]) = false := by subst hA; simp [ar]
    have hvv : A.cmp .neq vd vd = false := by subst hA; simp [ar, Z25]
    clear hyk hnk v1 v2 v3 v4 v5 hrng hr1 hr2;cbv;refine Z7 ?_;cbv;refine Z4 hS [.agg [I ins, .sl 1 FL, .sl 5 ML], I nI, I bI] [] [] rfl rfl rfl rfl rfl rfl rfl rfl (by decide) trivial (hAmt _ ?_);refine Z3 Z0 hA hS ?_;cbv;refine Z16 Z0 hA hS [0, 1, 2, 3, 4, 5, 6, 7, 8, 9, 10, 11, 12, 13, 14, 15, 16, 17, 18, 19, 20] rfl rfl fun Dk2 hD2 => ?_;cbv;refine bmF n00 ?_;cbv;refine FlatEq.mk ⟨[r1, r2], [r1, r2], rfl, rfl, rfl, rfl, ?_⟩;cbv;refine bmF hne ?_;cbv;refine ⟨iH, ⟨_, gH, ?_⟩⟩;cbv;refine ⟨iRb, ⟨_, gRb, ?_⟩⟩;cbv;refine Zbm hA hD2 (b := false) rfl rfl rfl rfl rfl rfl rfl rfl rfl rfl rfl (fun _ => ⟨[], _, [I so, I (A.oi (A.len WL))], [], [], rfl, rfl, rfl, by decide, trivial, Z14i so (A.oi (A.len WL)) vd hvtt _ ⟨by cbv; repeat' (first | exact trivial | exact Need.mk ⟨_, gH, rfl⟩ | exact Need.mk ⟨_, gRb, rfl⟩ | exact rfl | exact FlatEq.mk ⟨[r1, r2], [r1, r2], rfl, rfl, rfl, rfl, rfl⟩ | refine ⟨?_, ?_⟩), Zx Z0 hA hD2 ?_⟩⟩) (fun h => absurd rfl h);cbv;refine bmF hvv ?_;cbv;refine ⟨hfb, ?_⟩;refine Z8 (A.add bI 1, b + 1) [] ⟨hb, hw2⟩ hms3 ?_;exact ⟨by decide, Z9, trivial, ⟨rfl, rfl, rfl, rfl, rfl, rfl, rfl, trivial⟩, rfl, rfl⟩
   ·cbv;refine Z7 ?_;cbv;refine ⟨hfn, ?_⟩;refine Z8 (A.add nI 1, n + 1) [] ⟨hn, hu2⟩ hms ?_;exact ⟨by decide, Z9, trivial, ⟨rfl, rfl, rfl, rfl, rfl, rfl, trivial⟩, rfl, rfl⟩
  ·cbv;refine Z7 ?_;cbv;refine Z4 hS [] [] [] rfl rfl rfl rfl rfl rfl rfl rfl (by decide) trivial (Zov _ ?_);refine Z3 Z0 hA hS ?_;cbv;exact Z2 [] (by decide) Z9 (H' := []) (d' := .v (.bool true)) trivial rfl (Z1 hq)
end Go.Proofs.Ytecfpfhkicapeaa

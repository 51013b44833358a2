/- Part TxBK of the proofs about the benches of the accordion maker: see the last text of the claim for what is proved. -/
import Derived.Test.YtggilmnhgjofiaaGreatTxBJ
set_option linter.unusedVariables false
set_option linter.unusedSimpArgs false
set_option linter.unnecessarySimpa false
set_option linter.constructorNameAsVariable false

namespace Go.Proofs.YtggilmnhgjofiaaGreat
open Go Go.Abs Go.Proofs
def Z1vi (s h : Sd) (p : Nat) : R2 := (p * h.c - (s.b + p * s.d), p * h.d - (s.a + p * s.c))
theorem OkS.sm {a b c d : Int} (h : OkS a b c d) : Z1tm a /\ Z1tm b /\ Z1tm c /\ Z1tm d := by
 obtain ⟨⟨h1, h2, h3⟩, h4, h5, h6⟩ := h;simp only [Z1tm]; omega
set_option maxRecDepth 40000 in
set_option maxHeartbeats 16000000 in
theorem lJob (f st sp pr note me t0 t1 r0 r1 u0 u1 d0 d1 x0 x1 y0 y1 least : Int) (hB : OkB f st sp pr note me t0 t1 r0 r1 u0 u1 d0 d1 x0 x1 y0 y1 least) (LS HS : List D) (ls hs : List Sd) (hL : RowS LS ls) (hH : RowS HS hs) (hl : LS.length <= 2) (hh : HS.length <= 2) (prN : Nat) (hpr : IsI pr prN) (loN hiN : Nat) (lo hi : Int) (hlo : IsI lo loN) (hhi : IsI hi hiN) (s h : Sd) (hs1 : ls[loN]? = some s) (hs2 : hs[hiN]? = some h) (Q)
  (hq : ∀ SL p0 p1 n, p0 = h.a - (f + st * note) -> p1 = h.b - (f + st * note) -> SL = (List.range (prN + 1)).map (fun p => rD (Z1vi s h p)) -> SL.length = n -> Q (RA.ret (.agg [I p0, I p1, I t0, I t1, I r0, I r1, I u0, I u1, I d0, I d1, I x0, I x1, I y0, I y1, I least, .o 0 2 n, I sp, I me])) [.els 2 SL]) :
  CallA Tryz.prog 34 [bxD f st sp pr note LS HS t0 t1 r0 r1 u0 u1 d0 d1 x0 x1 y0 y1 least me, I lo, I hi] [] Q := by
 obtain ⟨A, hA⟩ : ∃ A, A = ar := ⟨_, rfl⟩;have hdb := Z20d hB.f hB.st hB.note;obtain ⟨b1, b2⟩ := hB.f;obtain ⟨b7, b8⟩ := hB.pr;have hp3 : prN <= 3 := by have := hpr.eq; omega
 obtain ⟨due, hdue⟩ : ∃ due, due = f + st * note := ⟨_, rfl⟩;have hDue := lDue f st sp pr note due hdue (by omega) (by simp only [Z1tm]; omega);rw [<- hdue] at hdb hq;have hdb := hdb.2;clear hdue;have ho1 := hL.ok s (List.mem_of_getElem? hs1);have ho2 := hH.ok h (List.mem_of_getElem? hs2);obtain ⟨m1, m2, m3, m4⟩ := ho1.sm;obtain ⟨m5, m6, m7, m8⟩ := ho2.sm;have g1 : LS[loN]? = some (.agg [I s.a, I s.b, I s.c, I s.d]) := by rw [hL.eq]; simp [hs1, sD]
 have g2 : HS[hiN]? = some (.agg [I h.a, I h.b, I h.c, I h.d]) := by rw [hH.eq]; simp [hs2, sD]
 have k1 : loN < LS.length := (List.getElem?_eq_some_iff.1 g1).1;have k2 : hiN < HS.length := (List.getElem?_eq_some_iff.1 g2).1;obtain ⟨N1, hN1⟩ : ∃ N1, N1 = LS.length := ⟨_, rfl⟩;obtain ⟨N2, hN2⟩ : ∃ N2, N2 = HS.length := ⟨_, rfl⟩;have in1 := Z1b hA hN1.symm hlo (by omega);have in2 := Z1b hA hN2.symm hhi (by omega);have gt1 := Z18 hA hlo g1;have gt2 := Z18 hA hhi g2;obtain ⟨a, ha⟩ : ∃ a, a = s.a := ⟨_, rfl⟩;obtain ⟨b, hb⟩ : ∃ b, b = s.b := ⟨_, rfl⟩;obtain ⟨c, hc⟩ : ∃ c, c = s.c := ⟨_, rfl⟩;obtain ⟨d, hd⟩ : ∃ d, d = s.d := ⟨_, rfl⟩;obtain ⟨a', ha'⟩ : ∃ a', a' = h.a := ⟨_, rfl⟩;obtain ⟨b', hb'⟩ : ∃ b', b' = h.b := ⟨_, rfl⟩;obtain ⟨c', hc'⟩ : ∃ c', c' = h.c := ⟨_, rfl⟩;obtain ⟨d', hd'⟩ : ∃ d', d' = h.d := ⟨_, rfl⟩;rw [<- ha, <- hb, <- hc, <- hd] at gt1;rw [<- ha', <- hb', <- hc', <- hd'] at gt2;have hq1 := fun SL n e1 e2 => hq SL (a' - due) (b' - due) n (by rw [ha']) (by rw [hb']) e1 e2;have hrange : ∀ k : Nat, (List.range (k + 1)).map (fun p => rD (Z1vi s h p)) = (List.range k).map (fun p => rD (Z1vi s h p)) ++ [rD (Z1vi s h k)] := fun k => by rw [List.range_succ, List.map_append]; rfl
 have hrise : ∀ (k : Nat) (kI : Int), IsI kI k -> k <= 10 -> ∀ Q' : RA -> List Blk -> Prop, (∀ x y, rD (Z1vi s h k) = .agg [I x, I y] -> Q' (RA.ret (.agg [I x, I y])) []) -> CallA Tryz.prog 68 [.agg [I a, I b, I c, I d], .agg [I a', I b', I c', I d'], I kI] [] Q' := fun k kI hk hk10 Q' hq' => by
  rw [ha, hb, hc, hd, ha', hb', hc', hd'];refine Z24r s.a s.b s.c s.d h.a h.b h.c h.d kI (by have := hk.eq; omega) ⟨m1, m2, m3, m4, m7, m8⟩ Q' fun x y hx hy => hq' x y ?_;rw [hx, hy, rD, Z1vi, hk.eq]
 have hle : -1000000000000 <= a' /\ a' <= 1000000000000 /\ -1000000000000 <= b' /\ b' <= 1000000000000 := by simp only [Z1tm] at m5 m6; rw [ha', hb']; omega
 have hdd : -1000000000000 <= due /\ due <= 1000000000000 /\ -1000000000000 <= due /\ due <= 1000000000000 := by omega
 have fpr : A.fits .i64 (A.add pr 1) := Zy hA hpr (by omega);have hpr1 : IsI (A.add pr 1) (prN + 1) := Zz hA hpr;have hless := Z24q a' b' due due hle hdd;obtain ⟨q0, hq0⟩ : ∃ q0, q0 = a' - due := ⟨_, rfl⟩;obtain ⟨q1, hq1'⟩ : ∃ q1, q1 = b' - due := ⟨_, rfl⟩;rw [<- hq0, <- hq1'] at hq1 hless;obtain ⟨pI, hpI⟩ : ∃ pI, pI = A.add pr 1 := ⟨_, rfl⟩;have hpI1 : IsI pI (prN + 1) := hpI ▸ hpr1;obtain ⟨M, hM⟩ : ∃ M, M = prN + 1 := ⟨_, rfl⟩;rw [<- hM] at hpI1 hq1;have hM4 : M <= 4 := by omega
 clear hq hq0 hq1' hpr1 hM ha hb hc hd ha' hb' hc' hd' hle hdd g1 g2;refine Z38 Z0 hA [3] Tryz.func34 rfl rfl rfl rfl rfl fun S hS => ?_;cbv;refine Z16 Z0 hA hS [0, 2, 3, 4, 5, 7, 1, 6, 8, 9] rfl rfl fun Dk hDk => ?_;cbv;refine Zq hA hDk [bxD f st sp pr note LS HS t0 t1 r0 r1 u0 u1 d0 d1 x0 x1 y0 y1 least me] [] [] rfl rfl rfl rfl rfl rfl rfl rfl rfl rfl rfl (by decide) trivial (Z259 f st sp pr note t0 t1 r0 r1 u0 u1 d0 d1 x0 x1 y0 y1 least me LS HS _ ⟨by cbv, Zx Z0 hA hDk ?_⟩);cbv;refine Zq hA hDk [.agg [I f, I st, I sp, I pr], I note] [] [] rfl rfl rfl rfl rfl rfl rfl rfl rfl rfl rfl (by decide) trivial (hDue _ ⟨by cbv, Zx Z0 hA hDk ?_⟩);cbv;refine ⟨in2, Need.mk ⟨_, gt2, ?_⟩⟩;cbv;refine Z4 hS [.agg [I a', I b'], .agg [I due, I due]] [] [] rfl rfl rfl rfl rfl rfl rfl rfl (by decide) trivial (hless _ (Z3 Z0 hA hS ?_));cbv;refine Z3h hS (Zfk 2 15 2 (.agg [I q0, I q1, I t0, I t1, I r0, I r1, I u0, I u1, I d0, I d1, I x0, I x1, I y0, I y1, I least, .o 3 2 0, I sp, I me]) rfl rfl rfl (Z7 ?_));refine Zb hS ?_;refine Z2w Z0 hA hS [] ?_;cbv;refine ⟨fpr, ?_⟩;refine Z3h hS (Zo7 32 (I pI) rfl (WkD.eq (congrArg (fun v => D.v (.int .i64 v)) hpI.symm)) (Z7 ?_));refine Zb hS ?_;refine Za (α := Int × Nat × List D) (fun p => { env := [(1, I lo), (2, I hi), (3, .b 0 0), (6, .b 1 0), (7, .b 2 0), (32, I pI), (33, I p.1)], H := [.box (bxD f st sp pr note LS HS t0 t1 r0 r1 u0 u1 d0 d1 x0 x1 y0 y1 least me), .box (.agg [I 0, I 0, I 0, I 0, I 0, I 0, I 0, I 0, I 0, I 0, I 0, I 0, I 0, I 0, I 0, .v (.slice none 0 0), I 0, I 0]), .box (.agg [I q0, I q1, I t0, I t1, I r0, I r1, I u0, I u1, I d0, I d1, I x0, I x1, I y0, I y1, I least, .o 3 2 p.2.1, I sp, I me]), .els 2 p.2.2], nt := 55, dfs := [] })
  (fun p => M - p.2.1) (fun p => IsI p.1 p.2.1 /\ p.2.1 <= M /\ p.2.2 = (List.range p.2.1).map (fun p => rD (Z1vi s h p)) /\ p.2.2.length = p.2.1) (0, 0, []) ⟨⟨rfl⟩, Nat.zero_le _, rfl, rfl⟩ ?_ ?_
 ·exact Zf [0, 1, 2, 3] ⟨by decide, Z9, ⟨rfl, rfl, rfl, rfl, trivial⟩, ⟨rfl, rfl, rfl, rfl, rfl, rfl, rfl, trivial⟩, rfl, rfl⟩
 rintro ⟨iI, i, es⟩ ⟨w1, w2, w3, w4⟩;dsimp only at w1 w2 w3 w4;have hi3 : i <= 1000000 := by omega
 have hi10 : i <= 10 := by omega
 have hri := hrise i iI w1 hi10;have hst : ∀ x y, rD (Z1vi s h i) = .agg [I x, I y] -> A.app es [.agg [I x, I y]] = (List.range (i + 1)).map (fun p => rD (Z1vi s h p)) := fun x y e => by rw [hrange, <- w3, e]; subst hA; rfl
 have hln : ∀ dd, (A.app es [dd]).length = A.addN i 1 := fun dd => by subst hA; show (es ++ [dd]).length = i + 1; simp [w4]
 have hf1 := Zy hA w1 (by omega);have hu1 := Zz hA w1;refine Zi Z0 hA hS ?_;cbv;refine bm (fun cc => ?_) (fun cc => ?_)
 ·have hk : i < M := by
   have h1 := xlt hA cc;have h2 := w1.eq;have h3 := hpI1.eq;omega
  have hms : M - (i + 1) < M - i := by omega
  cbv;refine Z16 Z0 hA hS [0, 1, 2, 3, 4, 5, 6, 7, 8, 9, 10, 11, 12, 16, 13, 14, 15, 17] rfl rfl fun Dk hDk => ?_;cbv;refine ⟨in1, Need.mk ⟨_, gt1, ?_⟩⟩;cbv;refine ⟨in2, Need.mk ⟨_, gt2, ?_⟩⟩;cbv;refine Zq hA hDk [.agg [I a, I b, I c, I d], .agg [I a', I b', I c', I d'], I iI] [] [] rfl rfl rfl rfl rfl rfl rfl rfl rfl rfl rfl (by decide) trivial (hri _ fun x y hxy => ⟨by cbv; repeat' (first | exact trivial | exact in1 | exact in2 | exact Need.mk ⟨_, gt1, rfl⟩ | exact Need.mk ⟨_, gt2, rfl⟩ | refine ⟨?_, ?_⟩), Zx Z0 hA hDk ?_⟩);have hxs := hst x y hxy;cbv;refine ⟨Ze hA w4, Ze hA rfl, Z27 hA hi3 (by decide), hf1, ?_⟩;refine Z8 (A.add iI 1, A.addN i 1, A.app es [.agg [I x, I y]]) [0, 1, 2, 5] ⟨by rw [xaddN hA]; exact hu1, by rw [xaddN hA]; exact hk, by rw [xaddN hA]; exact hxs, hln _⟩ (by rw [xaddN hA]; exact hms) ?_;exact ⟨by decide, Z9, ⟨rfl, rfl, rfl, rfl, trivial⟩, ⟨rfl, rfl, rfl, rfl, rfl, rfl, rfl, trivial⟩, rfl, rfl⟩
 ·have hk : i = M := by
   have h1 := Z7x hA cc;have h2 := w1.eq;have h3 := hpI1.eq;omega
  subst hk;have hqq := hq1 es i w3 w4;cbv;refine Z7 ?_;cbv;exact Z2 [3] (by decide) Z9 (H' := [.els 2 es]) (d' := .agg [I q0, I q1, I t0, I t1, I r0, I r1, I u0, I u1, I d0, I d1, I x0, I x1, I y0, I y1, I least, .o 0 2 i, I sp, I me]) ⟨rfl, trivial⟩ rfl (Z1 hqq)
def prJ (p0 p1 sp me t0 t1 r0 r1 u0 u1 d0 d1 x0 x1 y0 y1 least : Int) (SL : List D) : JbP := ⟨p0, p1, t0, t1, r0, r1, u0, u1, d0, d1, x0, x1, y0, y1, least, SL, sp, me, 0, 0⟩
set_option maxRecDepth 40000 in
theorem Z28e (f st sp pr note me t0 t1 r0 r1 u0 u1 d0 d1 x0 x1 y0 y1 least : Int) (hB : OkB f st sp pr note me t0 t1 r0 r1 u0 u1 d0 d1 x0 x1 y0 y1 least) (LS HS : List D) (ls hs : List Sd) (hL : RowS LS ls) (hH : RowS HS hs) (hl : LS.length <= 2) (hh : HS.length <= 2) (prN : Nat) (hpr : IsI pr prN) (loN hiN : Nat) (lo hi : Int) (hlo : IsI lo loN) (hhi : IsI hi hiN) (s h : Sd) (hs1 : ls[loN]? = some s) (hs2 : hs[hiN]? = some h) (Q)
  (hq : ∀ SL p0 p1 n, p0 = h.a - (f + st * note) -> p1 = h.b - (f + st * note) -> SL = (List.range (prN + 1)).map (fun p => rD (Z1vi s h p)) -> SL.length = n -> Q (RA.ret (.tup [.agg [I p0, I p1, I t0, I t1, I r0, I r1, I u0, I u1, I d0, I d1, I x0, I x1, I y0, I y1, I least, .o 0 2 n, I sp, I me], I 0])) [.els 2 SL]) :
  CallA Tryz.prog 9 [bxD f st sp pr note LS HS t0 t1 r0 r1 u0 u1 d0 d1 x0 x1 y0 y1 least me, I lo, I hi] [] Q := by
 obtain ⟨A, hA⟩ : ∃ A, A = ar := ⟨_, rfl⟩;have k1 : loN < LS.length := by have h1 := (List.getElem?_eq_some_iff.1 hs1).1; rw [hL.len] at h1; exact h1
 have k2 : hiN < HS.length := by have h1 := (List.getElem?_eq_some_iff.1 hs2).1; rw [hH.len] at h1; exact h1
 have hck := Z1xs f st sp pr note me t0 t1 r0 r1 u0 u1 d0 d1 x0 x1 y0 y1 least hB LS HS ls hs hL hH hl hh lo hi (by have := hlo.eq; omega) (by have := hhi.eq; omega);have hjb := lJob f st sp pr note me t0 t1 r0 r1 u0 u1 d0 d1 x0 x1 y0 y1 least hB LS HS ls hs hL hH hl hh prN hpr loN hiN lo hi hlo hhi s h hs1 hs2;refine Z5 Z0 hA Tryz.func9 rfl rfl rfl rfl rfl fun S hS => ?_;cbv;refine Z4 hS [bxD f st sp pr note LS HS t0 t1 r0 r1 u0 u1 d0 d1 x0 x1 y0 y1 least me, I lo, I hi] [] [] rfl rfl rfl rfl rfl rfl rfl rfl (by decide) trivial (hck _ (Z3 Z0 hA hS ?_));cbv;refine bmF (by subst hA; rfl) ?_;cbv;refine Z4 hS [bxD f st sp pr note LS HS t0 t1 r0 r1 u0 u1 d0 d1 x0 x1 y0 y1 least me, I lo, I hi] [] [] rfl rfl rfl rfl rfl rfl rfl rfl (by decide) trivial (hjb _ fun SL p0 p1 n e1 e2 e3 e4 => Z3 Z0 hA hS ?_);have hqq := hq SL p0 p1 n e1 e2 e3 e4;cbv;exact Z2 [2] (by decide) Z9 (H' := [.els 2 SL]) (d' := .tup [.agg [I p0, I p1, I t0, I t1, I r0, I r1, I u0, I u1, I d0, I d1, I x0, I x1, I y0, I y1, I least, .o 0 2 n, I sp, I me], I 0]) ⟨rfl, trivial⟩ rfl (Z1 hqq)
end Go.Proofs.YtggilmnhgjofiaaGreat

namespace Go.Proofs.YtggilmnhgjofiaaGreat
open Go Go.Abs Go.Proofs
theorem Z27j {s h : Sd} (hs : OkS s.a s.b s.c s.d) (hh : OkS h.a h.b h.c h.d) {p : Nat} (hp : p <= 3) : InR (-60) 60 (Z1vi s h p) := by
 obtain ⟨⟨h1, h2, h3⟩, h4, h5, h6⟩ := hs;obtain ⟨⟨g1, g2, g3⟩, g4, g5, g6⟩ := hh;obtain rfl | rfl | rfl | rfl : p = 0 ∨ p = 1 ∨ p = 2 ∨ p = 3 := by omega
 all_goals
  simp only [InR, Z1vi];omega
def shP (s h : Sd) (prN : Nat) : List R2 := (List.range (prN + 1)).map (Z1vi s h)
theorem Z22i (s h : Sd) (prN : Nat) : shP s h prN ≠ [] := by simp [shP]
theorem prOk {f st sp pr note me t0 t1 r0 r1 u0 u1 d0 d1 x0 x1 y0 y1 least : Int} (hB : OkB f st sp pr note me t0 t1 r0 r1 u0 u1 d0 d1 x0 x1 y0 y1 least) {s h : Sd} (hs : OkS s.a s.b s.c s.d) (hh : OkS h.a h.b h.c h.d) {prN : Nat} (hpr : IsI pr prN) {p0 p1 : Int} (hp : InR (-60) 60 (p0, p1)) {SL : List D} (hSL : SL = (shP s h prN).map rD) : OkJ (prJ p0 p1 sp me t0 t1 r0 r1 u0 u1 d0 d1 x0 x1 y0 y1 least SL) (shP s h prN) := by
 obtain ⟨-, -, hsp, hpr1, -, hme, ht, hr, hu, hd, hx, hy, hl⟩ := hB;have hp3 : prN <= 3 := by have := hpr.eq; omega
 refine ⟨hp, ht, hr, ?_, ?_, hx, hy, hl, hSL, by simp [shP]; omega, fun x hx => ?_, ?_, ?_⟩
 ·simp only [InR, prJ] at hu ⊢; omega
 ·simp only [InR, prJ] at hd ⊢; omega
 ·simp only [shP, List.mem_map, List.mem_range] at hx;obtain ⟨p, hp, rfl⟩ := hx;exact Z27j hs hh (by omega)
 ·simp only [prJ]; omega
 ·simp only [prJ]; omega
theorem Z25a {f st note : Int} (hf : 5 <= f /\ f <= 25) (hst : -1 <= st /\ st <= 1) (hn : 0 <= note /\ note <= 3) {h : Sd} (hh : OkS h.a h.b h.c h.d) : InR (-60) 60 (h.a - (f + st * note), h.b - (f + st * note)) := by
 have := (Z20d hf hst hn).2;obtain ⟨⟨g1, g2, g3⟩, -⟩ := hh;simp only [InR]; omega
set_option maxRecDepth 40000 in
theorem Z25b (f st sp pr note me t0 t1 r0 r1 u0 u1 d0 d1 x0 x1 y0 y1 least : Int) (hB : OkB f st sp pr note me t0 t1 r0 r1 u0 u1 d0 d1 x0 x1 y0 y1 least) (LS HS : List D) (ls hs : List Sd) (hL : RowS LS ls) (hH : RowS HS hs) (hl : LS.length <= 2) (hh : HS.length <= 2) (prN : Nat) (hpr : IsI pr prN) (loN hiN : Nat) (lo hi : Int) (hlo : IsI lo loN) (hhi : IsI hi hiN) (s h : Sd) (hs1 : ls[loN]? = some s) (hs2 : hs[hiN]? = some h) (Q)
  (hq : ∀ SL p0 p1, p0 = h.a - (f + st * note) -> p1 = h.b - (f + st * note) -> SL = (shP s h prN).map rD -> ∀ a b, (a, b) = Z1vz ((shP s h prN).map (Z1uu sp)) ->
   (∀ n nI, Z1xh (winJ (prJ p0 p1 sp me t0 t1 r0 r1 u0 u1 d0 d1 x0 x1 y0 y1 least SL) a b) = some n -> IsI nI n -> Q (RA.ret (.tup [I nI, I 0])) []) /\ (Z1xh (winJ (prJ p0 p1 sp me t0 t1 r0 r1 u0 u1 d0 d1 x0 x1 y0 y1 least SL) a b) = none -> Q (RA.ret (.tup [I 0, I 11])) [])) :
  CallA Tryz.prog 10 [bxD f st sp pr note LS HS t0 t1 r0 r1 u0 u1 d0 d1 x0 x1 y0 y1 least me, I lo, I hi] [] Q := by
 obtain ⟨A, hA⟩ : ∃ A, A = ar := ⟨_, rfl⟩;have k1 : loN < LS.length := by have h1 := (List.getElem?_eq_some_iff.1 hs1).1; rw [hL.len] at h1; exact h1
 have k2 : hiN < HS.length := by have h1 := (List.getElem?_eq_some_iff.1 hs2).1; rw [hH.len] at h1; exact h1
 have hck := Z1xs f st sp pr note me t0 t1 r0 r1 u0 u1 d0 d1 x0 x1 y0 y1 least hB LS HS ls hs hL hH hl hh lo hi (by have := hlo.eq; omega) (by have := hhi.eq; omega);have hjb := lJob f st sp pr note me t0 t1 r0 r1 u0 u1 d0 d1 x0 x1 y0 y1 least hB LS HS ls hs hL hH hl hh prN hpr loN hiN lo hi hlo hhi s h hs1 hs2;have ho1 := hL.ok s (List.mem_of_getElem? hs1);have ho2 := hH.ok h (List.mem_of_getElem? hs2);refine Z5 Z0 hA Tryz.func10 rfl rfl rfl rfl rfl fun S hS => ?_;cbv;refine Z4 hS [bxD f st sp pr note LS HS t0 t1 r0 r1 u0 u1 d0 d1 x0 x1 y0 y1 least me, I lo, I hi] [] [] rfl rfl rfl rfl rfl rfl rfl rfl (by decide) trivial (hck _ (Z3 Z0 hA hS ?_));cbv;refine bmF (by subst hA; rfl) ?_;cbv;refine Z4 hS [bxD f st sp pr note LS HS t0 t1 r0 r1 u0 u1 d0 d1 x0 x1 y0 y1 least me, I lo, I hi] [] [] rfl rfl rfl rfl rfl rfl rfl rfl (by decide) trivial (hjb _ fun SL p0 p1 n e1 e2 e3 e4 => Z3 Z0 hA hS ?_);have e3 : SL = (shP s h prN).map rD := by rw [e3, shP, List.map_map]; rfl
 have hOk : OkJ (prJ p0 p1 sp me t0 t1 r0 r1 u0 u1 d0 d1 x0 x1 y0 y1 least SL) (shP s h prN) := prOk hB ho1 ho2 hpr (by rw [e1, e2]; exact Z25a hB.f hB.st hB.note ho2) e3;have hqq := hq SL p0 p1 e1 e2 e3;cbv;refine Z26 hS (Z1a hA [1] ?_);cbv;refine ⟨Ze hA e4, Z7 ?_⟩;refine Z4 hS [jDat (prJ p0 p1 sp me t0 t1 r0 r1 u0 u1 d0 d1 x0 x1 y0 y1 least SL)] [] [] rfl rfl rfl rfl rfl rfl rfl rfl (by decide) trivial (Z20r (prJ p0 p1 sp me t0 t1 r0 r1 u0 u1 d0 d1 x0 x1 y0 y1 least SL) (shP s h prN) hOk (Z22i s h prN) _ fun a b hab => ⟨fun n2 nI hn hnI => ?_, fun hn => ?_⟩)
 ·have hq1 := (hqq a b hab).1 n2 nI hn hnI;refine Z3 Z0 hA hS ?_;cbv;exact Z2 (H' := []) (d' := .tup [I nI, I 0]) [] (by simp) (fun i hi => absurd hi (by simp)) trivial rfl (Z1 hq1)
 ·have hq1 := (hqq a b hab).2 hn;refine Z3 Z0 hA hS ?_;cbv;exact Z2 (H' := []) (d' := .tup [I 0, I 11]) [] (by simp) (fun i hi => absurd hi (by simp)) trivial rfl (Z1 hq1)
set_option maxRecDepth 40000 in
set_option maxHeartbeats 8000000 in
theorem Z26a (f st sp pr note me t0 t1 r0 r1 u0 u1 d0 d1 x0 x1 y0 y1 least : Int) (hB : OkB f st sp pr note me t0 t1 r0 r1 u0 u1 d0 d1 x0 x1 y0 y1 least) (LS HS : List D) (ls hs : List Sd) (hL : RowS LS ls) (hH : RowS HS hs) (hl : LS.length <= 2) (hh : HS.length <= 2) (prN : Nat) (hpr : IsI pr prN) (loN hiN : Nat) (lo hi : Int) (hlo : IsI lo loN) (hhi : IsI hi hiN) (s h : Sd) (hs1 : ls[loN]? = some s) (hs2 : hs[hiN]? = some h)
  (hin : ∀ n : Nat, n <= prN -> (f + st * note) - (h.a + (Z1vi s h n).1) <= sp /\ (h.b + (Z1vi s h n).2) - (f + st * note) <= sp) (Q) (hq : Q (RA.ret (.tup [I 1, I 0])) []) :
  CallA Tryz.prog 22 [bxD f st sp pr note LS HS t0 t1 r0 r1 u0 u1 d0 d1 x0 x1 y0 y1 least me, I lo, I hi] [] Q := by
 obtain ⟨A, hA⟩ : ∃ A, A = ar := ⟨_, rfl⟩;have k1 : loN < LS.length := by have h1 := (List.getElem?_eq_some_iff.1 hs1).1; rw [hL.len] at h1; exact h1
 have k2 : hiN < HS.length := by have h1 := (List.getElem?_eq_some_iff.1 hs2).1; rw [hH.len] at h1; exact h1
 have hck := Z1xs f st sp pr note me t0 t1 r0 r1 u0 u1 d0 d1 x0 x1 y0 y1 least hB LS HS ls hs hL hH hl hh lo hi (by have := hlo.eq; omega) (by have := hhi.eq; omega);have hdb := Z20d hB.f hB.st hB.note;have ho1 := hL.ok s (List.mem_of_getElem? hs1);have ho2 := hH.ok h (List.mem_of_getElem? hs2);obtain ⟨b1, b2⟩ := hB.f;obtain ⟨b5, b6⟩ := hB.sp;obtain ⟨b7, b8⟩ := hB.pr;have hp3 : prN <= 3 := by have := hpr.eq; omega
 obtain ⟨due, hdue⟩ : ∃ due, due = f + st * note := ⟨_, rfl⟩;have hDue := lDue f st sp pr note due hdue (by omega) (by simp only [Z1tm]; omega);rw [<- hdue] at hdb hin;have hdb := hdb.2;clear hdue;have hkp : ∀ SL2 : List D, SL2 = [sdD s.a s.b s.c s.d, sdD h.a h.b h.c h.d] -> ∀ Q' : RA -> List Blk -> Prop, Q' (RA.ret (I 1)) [] -> CallA Tryz.prog 48 [.agg [I f, I st, I sp, I pr], I due, .sl 4 SL2] [] Q' := fun SL2 e Q' hq' => by
  rw [hpr.eq];obtain ⟨⟨h1, h2, h3⟩, h4, h5, h6⟩ := ho1;obtain ⟨⟨g1, g2, g3⟩, g4, g5, g6⟩ := ho2;exact Z24s f st sp due prN s.a s.b s.c s.d h.a h.b h.c h.d (by omega) (by simp only [Tiny]; omega) (by simp only [Tiny]; omega) (by simp only [Z1tm]; omega) (by simp only [Z1tm]; omega) (fun n hn => by have := hin n hn; simp only [Z1vi] at this; exact this) SL2 e Q' hq'
 have g1 : LS[loN]? = some (.agg [I s.a, I s.b, I s.c, I s.d]) := by rw [hL.eq]; simp [hs1, sD]
 have g2 : HS[hiN]? = some (.agg [I h.a, I h.b, I h.c, I h.d]) := by rw [hH.eq]; simp [hs2, sD]
 obtain ⟨N1, hN1⟩ : ∃ N1, N1 = LS.length := ⟨_, rfl⟩;obtain ⟨N2, hN2⟩ : ∃ N2, N2 = HS.length := ⟨_, rfl⟩;have in1 := Z1b hA hN1.symm hlo (by omega);have in2 := Z1b hA hN2.symm hhi (by omega);have gt1 := Z18 hA hlo g1;have gt2 := Z18 hA hhi g2;refine Z5 Z0 hA Tryz.func22 rfl rfl rfl rfl rfl fun S hS => ?_;cbv;refine Z4 hS [bxD f st sp pr note LS HS t0 t1 r0 r1 u0 u1 d0 d1 x0 x1 y0 y1 least me, I lo, I hi] [] [] rfl rfl rfl rfl rfl rfl rfl rfl (by decide) trivial (hck _ (Z3 Z0 hA hS ?_));cbv;refine bmF (by subst hA; rfl) ?_;cbv;refine Z16 Z0 hA hS [0, 1, 2, 3, 4, 5, 7, 8, 9, 10, 11, 12, 13, 14, 15, 16, 17, 6, 18, 19, 20] rfl rfl fun Dk hDk => ?_;cbv;refine ⟨in1, Need.mk ⟨_, gt1, ?_⟩⟩;cbv;refine ⟨in2, Need.mk ⟨_, gt2, ?_⟩⟩;cbv;refine Zq hA hDk [.agg [I f, I st, I sp, I pr], I note] [] [] rfl rfl rfl rfl rfl rfl rfl rfl rfl rfl rfl (by decide) trivial (hDue _ ⟨by cbv; repeat' (first | exact trivial | exact in1 | exact in2 | exact Need.mk ⟨_, gt1, rfl⟩ | exact Need.mk ⟨_, gt2, rfl⟩ | refine ⟨?_, ?_⟩), Zx Z0 hA hDk ?_⟩);cbv;refine Zmn hA hDk [1] rfl rfl rfl rfl rfl rfl fun CG hC => ?_;cbv;refine ⟨by subst hA; rfl, ?_⟩;rw [hC];refine Zs5 [.agg [I f, I st, I sp, I pr], I due, .sl 4 [sdD s.a s.b s.c s.d, sdD h.a h.b h.c h.d]] [] [] rfl rfl rfl rfl rfl (by decide) trivial (hkp _ rfl _ (Zo8 hA Z0 hDk (by cbv; repeat' (first | exact trivial | exact in1 | exact in2 | exact Need.mk ⟨_, gt1, rfl⟩ | exact Need.mk ⟨_, gt2, rfl⟩ | refine ⟨?_, ?_⟩)) ?_));cbv;exact Z2 (H' := []) (d' := .tup [I 1, I 0]) [] (by simp) (fun i hi => absurd hi (by simp)) trivial rfl (Z1 hq)
end Go.Proofs.YtggilmnhgjofiaaGreat

namespace Go.Proofs.YtggilmnhgjofiaaGreat
open Go Go.Abs Go.Proofs
set_option maxRecDepth 40000 in
set_option maxHeartbeats 4000000 in
theorem Z25c (J : JbP) (sh : List R2) (h : OkJ J sh) (x tp tt tr : Int) (hp : MidV tp) (ht : MidV tt) (hr : MidV tr) (Q) (hq : ∀ n1 n2 p w x', (J.u0 <= n1 /\ n1 <= J.u1) -> (J.x0 <= n2 /\ n2 <= J.x1) -> p = tp + n1 -> w = tt - n2 -> Q (RA.ret (.agg [I p, I w, I tr])) [pot x']) :
  CallA Tryz.prog 18 [.b 0 0, jDat J, .agg [I tp, I tt, I tr], I 1] [pot x] Q := by
 obtain ⟨A, hA⟩ : ∃ A, A = ar := ⟨_, rfl⟩;have h1 := h.u;have h2 := h.x;simp only [InR] at h1 h2;simp only [MidV] at hp ht hr;refine Z5 Z0 hA Tryz.func18 rfl rfl rfl rfl rfl fun S hS => ?_;cbv;refine bmT (by subst hA; rfl) ?_;cbv;refine Z16 Z0 hA hS [0, 1, 2, 3, 4, 5, 8, 9, 10, 11, 12, 13, 16, 17, 6, 7, 14, 15, 18, 19] rfl rfl fun Dk hDk => ?_;cbv;refine Zq hA hDk [.b 0 0, .agg [I J.u0, I J.u1]] [0] [pot x] rfl rfl rfl rfl rfl rfl rfl rfl rfl rfl rfl (by decide) ⟨rfl, trivial⟩ (Z1xl x J.u0 J.u1 (by omega) _ fun n1 xa ha1 ha2 => ⟨by cbv, Zx Z0 hA hDk ?_⟩);have f1 : A.fits .i64 (A.add tp n1) := by subst hA; exact Zbu (n := tp + n1) (by omega)
 cbv;refine ⟨f1, ?_⟩;refine Zq hA hDk [.b 0 0, .agg [I J.x0, I J.x1]] [0] [pot xa] rfl rfl rfl rfl rfl rfl rfl rfl rfl rfl rfl (by decide) ⟨rfl, trivial⟩ (Z1xl xa J.x0 J.x1 (by omega) _ fun n2 xb hb1 hb2 => ⟨by cbv; try exact ⟨f1, rfl, trivial⟩, Zx Z0 hA hDk ?_⟩);have f2 : A.fits .i64 (A.sub tt n2) := by subst hA; exact Zbu (n := tt - n2) (by omega)
 have hqq := hq n1 n2 (A.add tp n1) (A.sub tt n2) xb ⟨ha1, ha2⟩ ⟨hb1, hb2⟩ (by subst hA; rfl) (by subst hA; rfl);cbv;refine ⟨f2, ?_⟩;exact Z2 [0] (by decide) Z2n (H' := [pot xb]) (d' := .agg [I (A.add tp n1), I (A.sub tt n2), I tr]) ⟨rfl, trivial⟩ rfl (Z1 hqq)
set_option maxRecDepth 40000 in
set_option maxHeartbeats 4000000 in
theorem Z25d (J : JbP) (sh : List R2) (h : OkJ J sh) (x tp tt tr : Int) (hp : MidV tp) (ht : MidV tt) (hr : MidV tr) (Q) (hq : ∀ n1 n2 p w x', (J.d0 <= n1 /\ n1 <= J.d1) -> (J.y0 <= n2 /\ n2 <= J.y1) -> p = tp - n1 -> w = tr - n2 -> Q (RA.ret (.agg [I p, I tt, I w])) [pot x']) :
  CallA Tryz.prog 18 [.b 0 0, jDat J, .agg [I tp, I tt, I tr], I 2] [pot x] Q := by
 obtain ⟨A, hA⟩ : ∃ A, A = ar := ⟨_, rfl⟩;have h1 := h.d;have h2 := h.y;simp only [InR] at h1 h2;simp only [MidV] at hp ht hr;refine Z5 Z0 hA Tryz.func18 rfl rfl rfl rfl rfl fun S hS => ?_;cbv;refine bmF (by subst hA; rfl) ?_;cbv;refine Z16 Z0 hA hS [0, 1, 2, 3, 4, 5, 8, 9, 10, 11, 12, 13, 14, 15, 6, 7, 16, 17, 18, 19] rfl rfl fun Dk hDk => ?_;cbv;refine Zq hA hDk [.b 0 0, .agg [I J.d0, I J.d1]] [0] [pot x] rfl rfl rfl rfl rfl rfl rfl rfl rfl rfl rfl (by decide) ⟨rfl, trivial⟩ (Z1xl x J.d0 J.d1 (by omega) _ fun n1 xa ha1 ha2 => ⟨by cbv, Zx Z0 hA hDk ?_⟩);have f1 : A.fits .i64 (A.sub tp n1) := by subst hA; exact Zbu (n := tp - n1) (by omega)
 cbv;refine ⟨f1, ?_⟩;refine Zq hA hDk [.b 0 0, .agg [I J.y0, I J.y1]] [0] [pot xa] rfl rfl rfl rfl rfl rfl rfl rfl rfl rfl rfl (by decide) ⟨rfl, trivial⟩ (Z1xl xa J.y0 J.y1 (by omega) _ fun n2 xb hb1 hb2 => ⟨by cbv; try exact ⟨f1, rfl, trivial⟩, Zx Z0 hA hDk ?_⟩);have f2 : A.fits .i64 (A.sub tr n2) := by subst hA; exact Zbu (n := tr - n2) (by omega)
 have hqq := hq n1 n2 (A.sub tp n1) (A.sub tr n2) xb ⟨ha1, ha2⟩ ⟨hb1, hb2⟩ (by subst hA; rfl) (by subst hA; rfl);cbv;refine ⟨f2, ?_⟩;exact Z2 [0] (by decide) Z2n (H' := [pot xb]) (d' := .agg [I (A.sub tp n1), I tt, I (A.sub tr n2)]) ⟨rfl, trivial⟩ rfl (Z1 hqq)
theorem lInK (a b n : Int) (h : a <= n /\ n <= b) (Q) (hq : Q (RA.ret (.v (.bool true))) []) : CallA Tryz.prog 15 [.agg [I a, I b], I n] [] Q := by
 obtain ⟨A, hA⟩ : ∃ A, A = ar := ⟨_, rfl⟩;have e1 : A.cmp .leq a n = true := by subst hA; exact decide_eq_true h.1
 have e2 : A.cmp .leq n b = true := by subst hA; exact decide_eq_true h.2
 refine Z5 Z0 hA Tryz.func15 rfl rfl rfl rfl rfl fun S hS => ?_;cbv;refine bmT e1 ?_;cbv;refine Z2 (H' := []) (d' := .v (.bool (A.cmp .leq n b))) [] (by simp) (fun i hi => absurd hi (by simp)) trivial rfl (Z1 ?_);rw [e2]; exact hq
set_option maxRecDepth 40000 in
theorem Z26b (x a b c d : Int) (h : OkS a b c d) (Q) (hq : ∀ t s x', (a <= t /\ t <= b) -> (c <= s /\ s <= d) -> Q (RA.ret (.agg [I t, I s])) [pot x']) : CallA Tryz.prog 21 [.b 0 0, .agg [I a, I b, I c, I d]] [pot x] Q := by
 obtain ⟨A, hA⟩ : ∃ A, A = ar := ⟨_, rfl⟩;obtain ⟨⟨h1, h2, h3⟩, h4, h5, h6⟩ := h;refine Z5 Z0 hA Tryz.func21 rfl rfl rfl rfl rfl fun S hS => ?_;cbv;refine Z16 Z0 hA hS [0, 1, 2, 4, 5, 6, 3, 7, 8, 9] rfl rfl fun Dk hDk => ?_;cbv;refine Zq hA hDk [.b 0 0, .agg [I a, I b]] [0] [pot x] rfl rfl rfl rfl rfl rfl rfl rfl rfl rfl rfl (by decide) ⟨rfl, trivial⟩ (Z1xl x a b (by omega) _ fun t xa ha1 ha2 => ⟨by cbv, Zx Z0 hA hDk ?_⟩);cbv;refine Zq hA hDk [.b 0 0, .agg [I c, I d]] [0] [pot xa] rfl rfl rfl rfl rfl rfl rfl rfl rfl rfl rfl (by decide) ⟨rfl, trivial⟩ (Z1xl xa c d (by omega) _ fun s xb hb1 hb2 => ⟨by cbv, Zx Z0 hA hDk ?_⟩);have hqq := hq t s xb ⟨ha1, ha2⟩ ⟨hb1, hb2⟩;cbv;exact Z2 [0] (by decide) Z2n (H' := [pot xb]) (d' := .agg [I t, I s]) ⟨rfl, trivial⟩ rfl (Z1 hqq)
set_option maxRecDepth 40000 in
theorem Z26c (lt lsl ht hsl p : Int) (h1 : MidV lt /\ MidV ht) (h2 : -1000 <= lsl /\ lsl <= 1000 /\ -1000 <= hsl /\ hsl <= 1000) (hp : 0 <= p /\ p <= 1000) (Q) (hq : ∀ v, v = ht + hsl * p - lt - lsl * p -> Q (RA.ret (I v)) []) : CallA Tryz.prog 47 [.agg [I lt, I lsl], .agg [I ht, I hsl], I p] [] Q := by
 obtain ⟨A, hA⟩ : ∃ A, A = ar := ⟨_, rfl⟩;simp only [MidV] at h1;have m1 := Z1vb hp (show -1000000 <= hsl /\ hsl <= 1000000 by omega);have m2 := Z1vb hp (show -1000000 <= lsl /\ lsl <= 1000000 by omega);rw [Int.mul_comm] at m1 m2;have f1 : A.fits .i64 (A.mul hsl p) := by subst hA; exact Zbu (n := hsl * p) (by omega)
 have f2 : A.fits .i64 (A.add ht (A.mul hsl p)) := by subst hA; exact Zbu (n := ht + hsl * p) (by omega)
 have f3 : A.fits .i64 (A.sub (A.add ht (A.mul hsl p)) lt) := by subst hA; exact Zbu (n := ht + hsl * p - lt) (by omega)
 have f4 : A.fits .i64 (A.mul lsl p) := by subst hA; exact Zbu (n := lsl * p) (by omega)
 have f5 : A.fits .i64 (A.sub (A.sub (A.add ht (A.mul hsl p)) lt) (A.mul lsl p)) := by subst hA; exact Zbu (n := ht + hsl * p - lt - lsl * p) (by omega)
 have hqq := hq (A.sub (A.sub (A.add ht (A.mul hsl p)) lt) (A.mul lsl p)) (by subst hA; rfl);clear hq m1 m2;refine Z5 Z0 hA Tryz.func47 rfl rfl rfl rfl rfl fun S hS => ?_;cbv;exact ⟨f1, f2, f3, f4, f5, Z2 (H' := []) (d' := I (A.sub (A.sub (A.add ht (A.mul hsl p)) lt) (A.mul lsl p))) [] (by simp) (fun i hi => absurd hi (by simp)) trivial rfl (Z1 hqq)⟩
set_option maxRecDepth 40000 in
set_option maxHeartbeats 4000000 in
theorem Z26d (l0 l1 sp pr due lt lsl ht hsl : Int) (prN : Nat) (hpr : IsI pr prN) (hp3 : prN <= 100) (h1 : MidV lt /\ MidV ht) (h2 : -1000 <= lsl /\ lsl <= 1000 /\ -1000 <= hsl /\ hsl <= 1000) (hdue : MidV due) (hsp : MidV sp)
  (hin : ∀ p : Nat, p <= prN -> -sp <= ht + hsl * p - lt - lsl * p - due /\ ht + hsl * p - lt - lsl * p - due <= sp) (Q) (hq : Q (RA.ret (.v (.bool true))) []) : CallA Tryz.prog 20 [.agg [I l0, I l1, I sp, I pr], I due, .agg [I lt, I lsl], .agg [I ht, I hsl]] [] Q := by
 obtain ⟨A, hA⟩ : ∃ A, A = ar := ⟨_, rfl⟩;have hbk := fun (p : Int) (hp : 0 <= p /\ p <= 1000) => Z26c lt lsl ht hsl p h1 h2 hp;simp only [MidV] at h1 hdue hsp;have hstep : ∀ (k : Nat) (i v : Int), IsI i k -> k <= prN -> v = ht + hsl * i - lt - lsl * i -> A.fits .i64 (A.sub v due) /\ A.cmp .gtr (A.sub v due) sp = false /\ A.fits .i64 (A.neg sp) /\ A.cmp .lss (A.sub v due) (A.neg sp) = false := fun k i v hk hkp hv => by
  have := hin k hkp;rw [<- hk.eq, <- hv] at this;subst hA;exact ⟨Zbu (n := v - due) (by omega), decide_eq_false (by show ¬ (sp < v - due); omega), Zbu (n := -sp) (by omega), decide_eq_false (by show ¬ (v - due < -sp); omega)⟩
 clear hin;refine Z5 Z0 hA Tryz.func20 rfl rfl rfl rfl rfl fun S hS => ?_;cbv;refine Zb hS ?_;refine Za (α := Int × Nat) (fun p => { env := [(1, I due), (4, .b 0 0), (6, .b 1 0), (7, .b 2 0), (8, .v (.bool false)), (9, I p.1)], H := [.box (.agg [I l0, I l1, I sp, I pr]), .box (.agg [I lt, I lsl]), .box (.agg [I ht, I hsl])], nt := 34, dfs := [] })
  (fun p => prN + 1 - p.2) (fun p => IsI p.1 p.2 /\ p.2 <= prN + 1) (0, 0) ⟨⟨rfl⟩, Nat.zero_le _⟩ ?_ ?_
 ·exact Zf [0, 1, 2] ⟨by decide, Z9, ⟨rfl, rfl, rfl, trivial⟩, ⟨rfl, rfl, rfl, rfl, rfl, rfl, trivial⟩, rfl, rfl⟩
 rintro ⟨i, k⟩ ⟨u1, u2⟩;dsimp only at u1 u2;have hi1 : 0 <= i /\ i <= 1000 := by have := u1.eq; omega
 have hstep := hstep k i;have hbk := hbk i hi1;have hf1 := Zy hA u1 (by omega);have hu1 := Zz hA u1;refine Zi Z0 hA hS ?_;cbv;refine bm (fun cc => ?_) (fun cc => ?_)
 ·have hk : k <= prN := by
   have e1 := xle hA cc;have e2 := u1.eq;have e3 := hpr.eq;omega
  have hms : prN + 1 - (k + 1) < prN + 1 - k := by omega
  cbv;refine Z4 hS [.agg [I lt, I lsl], .agg [I ht, I hsl], I i] [] [] rfl rfl rfl rfl rfl rfl rfl rfl (by decide) trivial (hbk _ fun v hv => Z3 Z0 hA hS ?_);obtain ⟨w1, w2, w3, w4⟩ := hstep v u1 hk hv;cbv;refine ⟨w1, ?_⟩;refine bmF w2 ?_;cbv;refine ⟨w3, ?_⟩;refine bmF w4 ?_;cbv;refine ⟨hf1, ?_⟩;refine Z8 (A.add i 1, k + 1) [0, 1, 2] ⟨hu1, by dsimp only; omega⟩ hms ?_;exact ⟨by decide, Z9, ⟨rfl, rfl, rfl, trivial⟩, ⟨rfl, rfl, rfl, rfl, rfl, rfl, trivial⟩, rfl, rfl⟩
 ·cbv;refine Z7 ?_;cbv;exact Z2 (H' := []) (d' := .v (.bool true)) [] (by simp) (fun i hi => absurd hi (by simp)) trivial rfl (Z1 hq)
set_option maxRecDepth 40000 in
set_option maxHeartbeats 4000000 in
theorem Z25e (f st sp pr note me t0 t1 r0 r1 u0 u1 d0 d1 x0 x1 y0 y1 least : Int) (LS HS : List D) (nl nh : Nat) (hl : LS.length = nl) (hh : HS.length = nh) (hl2 : nl <= 2) (hh2 : nh <= 2) (Q) (hq : Q (RA.ret (.agg [I f, I st, I sp, I pr, I note, .o 0 4 nl, .o 1 4 nh, I t0, I t1, I r0, I r1, I u0, I u1, I d0, I d1, I x0, I x1, I y0, I y1, I least, I me])) [.els 4 LS, .els 4 HS]) :
  CallA Tryz.prog 19 [bxD f st sp pr note LS HS t0 t1 r0 r1 u0 u1 d0 d1 x0 x1 y0 y1 least me] [] Q := by
 obtain ⟨A, hA⟩ : ∃ A, A = ar := ⟨_, rfl⟩;have hqq : Q (RA.ret (.agg [I f, I st, I sp, I pr, I note, .o 0 4 (A.addN 0 (A.len LS)), .o 1 4 (A.addN 0 (A.len HS)), I t0, I t1, I r0, I r1, I u0, I u1, I d0, I d1, I x0, I x1, I y0, I y1, I least, I me])) [.els 4 (A.app [] LS), .els 4 (A.app [] HS)] := by
  have e1 : A.addN 0 (A.len LS) = nl := by subst hA; show 0 + LS.length = nl; omega
  have e2 : A.addN 0 (A.len HS) = nh := by subst hA; show 0 + HS.length = nh; omega
  have e3 : A.app [] LS = LS := by subst hA; rfl
  have e4 : A.app [] HS = HS := by subst hA; rfl
  rw [e1, e2, e3, e4]; exact hq
 have r1' : A.room (A.addN 0 (A.len LS)) 32 := by subst hA; exact ⟨by show (0 + LS.length) * 32 <= 140737488355328; omega, by show 0 + LS.length <= 4611686018427387904; omega⟩
 have r2' : A.room (A.addN 0 (A.len HS)) 32 := by subst hA; exact ⟨by show (0 + HS.length) * 32 <= 140737488355328; omega, by show 0 + HS.length <= 4611686018427387904; omega⟩
 clear hq;refine Z5 Z0 hA Tryz.func19 rfl rfl rfl rfl rfl fun S hS => ?_;cbv;refine Z16 Z0 hA hS [0, 4, 1, 2, 5, 6, 8, 10, 3, 7, 9, 11] rfl rfl fun Dk hDk => ?_;cbv;refine ⟨by subst hA; rfl, r1', by subst hA; rfl, r2', ?_⟩;exact Z2 [4, 5] (by decide) Z9 (H' := [.els 4 (A.app [] LS), .els 4 (A.app [] HS)]) (d' := .agg [I f, I st, I sp, I pr, I note, .o 0 4 (A.addN 0 (A.len LS)), .o 1 4 (A.addN 0 (A.len HS)), I t0, I t1, I r0, I r1, I u0, I u1, I d0, I d1, I x0, I x1, I y0, I y1, I least, I me]) ⟨rfl, rfl, trivial⟩ rfl (Z1 hqq)
end Go.Proofs.YtggilmnhgjofiaaGreat

namespace Go.Proofs.YtggilmnhgjofiaaGreat
open Go Go.Abs Go.Proofs
theorem Z28f {a b : Int} : a <= mxI a b /\ b <= mxI a b := by unfold mxI; split <;> omega
theorem Z28g {a b : Int} : mnI a b <= a /\ mnI a b <= b := by unfold mnI; split <;> omega
theorem Z20e : ∀ (l : List R2) (z : R2), z.1 <= (l.foldl Z1vg z).1 /\ (l.foldl Z1vg z).2 <= z.2 /\ ∀ s ∈ l, s.1 <= (l.foldl Z1vg z).1 /\ (l.foldl Z1vg z).2 <= s.2
 | [], z => ⟨Int.le_refl _, Int.le_refl _, fun s h => absurd h (by simp)⟩
 | x :: l, z => by
  obtain ⟨h1, h2, h3⟩ := Z20e l (Z1vg z x);have e1 := @Z28f z.1 x.1;have e2 := @Z28g z.2 x.2;have d1 : (Z1vg z x).1 = mxI z.1 x.1 := rfl;have d2 : (Z1vg z x).2 = mnI z.2 x.2 := rfl;rw [d1] at h1;rw [d2] at h2;simp only [List.foldl_cons];refine ⟨by omega, by omega, fun s hs => ?_⟩;rcases List.mem_cons.1 hs with rfl | hs
  ·exact ⟨by omega, by omega⟩
  ·exact h3 s hs
theorem Z25f {l : List R2} {x y : Int} (e : (x, y) = Z1vz l) : ∀ s ∈ l, s.1 <= x /\ y <= s.2 := by
 cases l with
 | nil => intro s h; simp at h
 | cons z l =>
  have h := Z20e l z;have e' : Z1vz (z :: l) = l.foldl Z1vg z := rfl;rw [e'] at e;rw [<- e] at h;intro s hs;rcases List.mem_cons.1 hs with rfl | hs
  ·exact ⟨h.1, h.2.1⟩
  ·exact h.2.2 s hs
theorem Z22j {s h : Sd} {prN : Nat} {sp x y : Int} (e : (x, y) = Z1vz ((shP s h prN).map (Z1uu sp))) : ∀ p, p <= prN -> -sp - (Z1vi s h p).1 <= x /\ y <= sp - (Z1vi s h p).2 := fun p hp =>
 Z25f e (Z1uu sp (Z1vi s h p)) (List.mem_map.2 ⟨_, List.mem_map.2 ⟨p, by simp; omega, rfl⟩, rfl⟩)
theorem Z1wh {J J' : JbP} (a b : Nat) (hs : ∀ tp rt, Z1wf J (tp + a) (rt + b) = Z1wf J' tp rt) (hu : ∀ p, tipJ J p = tipJ J' p) (hd : ∀ p, Z20a J p = Z20a J' p) (hm : J.me = J'.me) (hw : (J.w0, J.w1) = (J'.w0, J'.w1)) :
  ∀ (l : Nat) (p : R2) (tp rt : Nat), Z1u4 J l p (tp + a) (rt + b) = Z1u4 J' l p tp rt
 | 0, p, tp, rt => by simp only [Z1u4, hw]
 | l + 1, p, tp, rt => by
  have ih := Z1wh a b hs hu hd hm hw l;simp only [Z1u4, hw, hu, hd, hm];rw [show tp + a + 1 = (tp + 1) + a by omega, show rt + b + 1 = (rt + 1) + b by omega, hs, hs];have e1 : (fun q => Z1u4 J l q (tp + 1 + a) (rt + b)) = fun q => Z1u4 J' l q (tp + 1) rt := funext fun q => ih q _ _;have e2 : (fun q => Z1u4 J l q (tp + a) (rt + 1 + b)) = fun q => Z1u4 J' l q tp (rt + 1) := funext fun q => ih q _ _;rw [e1, e2]
theorem Z1zn {f : R2 -> Bool} {p : R2} {m : Int} (h : Z1vk f p m = true) {k : Nat} (hk : (k : Int) <= p.2 - p.1 + 2 * m) : f (Z1vr p m k) = true := by
 rw [Z1vk, List.all_eq_true] at h;exact h k (by rw [List.mem_range]; omega)
theorem Z1xt {f : R2 -> Bool} {a b m : Int} (h : Z1vk f (a, b) m = true) (hm : 0 <= m) (hab : a <= b) : f (a, a) = true /\ f (b, b) = true := by
 have h1 := Z1zn h (k := 0) (by dsimp only; omega);have h2 := Z1zn h (k := (b - a + 2 * m).toNat) (by dsimp only; omega);have e1 : Z1vr (a, b) m 0 = (a, a) := by
  simp only [Z1vr, Z1vg, mxI, mnI]
  congr 1 <;> split <;> omega
 have e2 : Z1vr (a, b) m (b - a + 2 * m).toNat = (b, b) := by
  simp only [Z1vr, Z1vg, mxI, mnI]
  congr 1 <;> split <;> omega
 rw [e1] at h1;rw [e2] at h2;exact ⟨h1, h2⟩
structure Bnd (J : JbP) : Prop where
 w : -38 <= J.w0 /\ J.w1 <= 38
 u : 0 <= J.u0 /\ J.u0 <= J.u1 /\ J.u1 <= 7
 d : 0 <= J.d0 /\ J.d0 <= J.d1 /\ J.d1 <= 7
 m : 0 <= J.me
theorem Z1yd {J : JbP} (hB : Bnd J) : ∀ (l : Nat) (a b : Int) (tp rt : Nat), a <= b -> Z1u4 J l (a, b) tp rt = true -> -38 - 7 * (l : Int) <= a /\ b <= 38 + 7 * (l : Int)
 | 0, a, b, tp, rt, _, h => by
  simp only [Z1u4, hasR, Bool.and_eq_true, decide_eq_true_eq] at h;have := hB.w;omega
 | l + 1, a, b, tp, rt, hab, h => by
  obtain ⟨hw, hu, hd, hm⟩ := hB;have ih := Z1yd ⟨hw, hu, hd, hm⟩ l;simp only [Z1u4, Bool.or_eq_true, Bool.and_eq_true] at h;rcases h with h | ⟨-, h⟩ | ⟨-, h⟩
  ·simp only [hasR, Bool.and_eq_true, decide_eq_true_eq] at h;omega
  ·obtain ⟨g1, g2⟩ := Z1xt (a := a + J.u0) (b := b + J.u1) h hm (by omega);have i1 := ih _ _ _ _ (Int.le_refl _) g1;have i2 := ih _ _ _ _ (Int.le_refl _) g2;omega
  ·obtain ⟨g1, g2⟩ := Z1xt (a := a - J.d1) (b := b - J.d0) h hm (by omega);have i1 := ih _ _ _ _ (Int.le_refl _) g1;have i2 := ih _ _ _ _ (Int.le_refl _) g2;omega
theorem Z20f {J : JbP} (hB : Bnd J) {l : Nat} {a b : Int} {tp rt : Nat} (hab : a <= b) (h : Z1v4 J l (a, b) tp rt = true) : -38 - 7 * (l : Int) <= a /\ b <= 38 + 7 * (l : Int) := by
 obtain ⟨g1, g2⟩ := Z1xt h hB.m hab;have i1 := Z1yd hB _ _ _ _ _ (Int.le_refl _) g1;have i2 := Z1yd hB _ _ _ _ _ (Int.le_refl _) g2;omega
theorem Z1xi {f : Nat -> Bool} {n : Nat} (h : Z1w0 f = some n) : f n = true /\ n <= 4 /\ ∀ k, k < n -> f k = false := by
 have h1 := List.find?_some h;have h2 := List.mem_of_find?_eq_some h;have hn : n < 5 := by simpa using h2
 refine ⟨h1, by omega, fun k hk => ?_⟩
 cases hf : f k with
 | false => rfl
 | true =>
  exfalso
  have key : ∃ m, m <= k /\ Z1w0 f = some m := by
   clear h h1 h2
   induction k using Nat.strongRecOn with
   | _ k ih =>
    by_cases hk5 : k < 5
    ·by_cases hx : ∃ j, j < k /\ f j = true
     ·obtain ⟨j, hj, hfj⟩ := hx;obtain ⟨m, hm, e⟩ := ih j hj (by omega) hfj;exact ⟨m, by omega, e⟩
     ·refine ⟨k, Nat.le_refl _, Z1yk hk5 (fun j hj => ?_) hf⟩
      cases hfj : f j with
      | false => rfl
      | true => exact absurd ⟨j, hj, hfj⟩ hx
    ·omega
  obtain ⟨m, hm, e⟩ := key;rw [h] at e
  cases e
  omega
theorem Z23u {f : Nat -> Bool} {L : Nat} (hL : L <= 4) (h : f L = true) : ∃ n, Z1w0 f = some n /\ n <= L := by
 cases e : Z1w0 f with
 | none =>
  rw [Z1w0, List.find?_eq_none] at e;exact absurd h (e L (by simp; omega))
 | some n =>
  refine ⟨n, rfl, ?_⟩;obtain ⟨-, -, h3⟩ := Z1xi e
  by_cases hlt : L < n
  ·rw [h3 L hlt] at h; cases h
  ·omega
theorem Z1ye (t x : R2) : ∀ n : Nat, Z1v9 t x (n + 1) = Z1v9 (Z1vf t x) x n
 | 0 => rfl
 | n + 1 => by rw [Z1v9, Z1ye t x n, Z1v9]
end Go.Proofs.YtggilmnhgjofiaaGreat

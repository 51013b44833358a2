/- Part TxBD of the proofs about the benches of the accordion maker: see the last text of the claim for what is proved. -/
import Derived.Test.YtggilmnhgjofiaaGreatTxBC
import Derived.Test.YtggilmnhgjofiaaGreatTxAW
import Derived.Test.YtggilmnhgjofiaaGreatTxAU
import Derived.Test.YtggilmnhgjofiaaGreatTxAV
import Derived.Test.YtggilmnhgjofiaaGreatTxAS
set_option linter.unusedVariables false
set_option linter.unusedSimpArgs false
set_option linter.unnecessarySimpa false
set_option linter.constructorNameAsVariable false

namespace Go.Proofs.YtggilmnhgjofiaaGreat
open Go Go.Abs Go.Conc Go.Proofs
theorem Z24n {P : Program} {X : Frame -> List Frame -> World -> Prop} {b : Frame} {a : Act} {k : List Item} {cs : List Frame} {w : World} {ops : Array Oper} {i : Nat} {rest : List Nat} {o : Oper} (ho : ops[i]? = some o) (hw : Region.wanted o (yielded ops a.tmps) = true) (hb : b.roundOf = none) (hsem : o.semAt none a.eval = execOp a.eval o)
  (h : ∀ d, ∃ v, (execOp a.eval o).run P (w.at d) = .ok (.value v) (w.at d) /\ Z1uv ((execOp a.eval o).events P (w.at d) #[]) /\ Runs P X (b.atR (a.put o.dst v) (.inRegion ops rest :: k)) cs (w.at d)) (d0 : Nat) : Runs P X (b.atR a (.inRegion ops (i :: rest) :: k)) cs (w.at d0) := by
 refine .stepAt fun d => ?_;obtain ⟨v, hrun, hq, hr⟩ := h d;have hg := Z1wa (P := P) (main := true) (b := b) (k := k) (cs := cs) (w := w.at d) (rest := rest) ho hw;rw [hb, hsem] at hg;have hfin : (b.atR a (.inRegion ops (i :: rest) :: k)).finish v = b.atR (a.put o.dst v) (.inRegion ops rest :: k) := by rw [Frame.finish_atR, ho]; rfl
 refine ⟨_, _, w.at d, seen P (b.atR a (.inRegion ops (i :: rest) :: k)).fn (if ((b.atR a (.inRegion ops (i :: rest) :: k)).kind == .early) = true then #[] else (execOp a.eval o).events P (w.at d) #[]), ?_, ?_, hr⟩
 ·rw [show (G (b.atR a (.inRegion ops (i :: rest) :: k)) cs) = { frame := b.atR a (.inRegion ops (i :: rest) :: k), callers := cs, status := .running, dying := none } from rfl, hg, <- hfin];simp [stepG.apply, hrun, GStep.after, G]
 ·split
  ·exact Z1up .nil
  ·exact Z1up hq
theorem Z26r {c : Code} {Q : AX -> St -> Prop} {s : St} (h : ∀ K : AX -> St -> Prop, (∀ x s', Q x s' -> K x s') -> WpA Tryz.prog none 0 c K s) : WpA Tryz.prog none 0 c Q s := h Q fun _ _ h => h
theorem Z25q {x6 x8 : D} {Q : AX -> St -> Prop} {cb k6 kc : Nat} {s : St} (e3 : Z1c s.env 3 = some (.cb (mD x6 x8) 0)) (e4 : Z1c s.env 4 = some (.cb hD 0)) (e5 : Z1c s.env 5 = some (.cb (I 3) 0)) (e6 : Z1c s.env 6 = some (.b k6 0)) (e7 : Z1c s.env 7 = some (.cb (.v (.chan (some cb))) 0))
  (hkc : s.H[kc]? = some (.ob (.ch cb))) (hnt : s.nt = 18) (hds : s.dfs = [])
  (hT : OpsA Tryz.prog none 0 Z24k (fun x s' => x = .normal /\ WpA Tryz.prog none 0 (seqR c85L) (fun x s'' => x = .exit 0 /\ WpA Tryz.prog none 0 c85E Q s'') s') [1] { env := [(6, .b k6 0), (8, .cb (st6 3) 0), (13, .tup [st6 0, .v (.bool false)])], H := s.H.set kc .dead, nt := 18, dfs := [] }) : WpA Tryz.prog none 0 (seqR (seqR cB85)) Q s := by
 refine ⟨fun F μ a w h1 => ?_⟩;intro d0 b k cs hb;have hcode : seqR (seqR cB85) = .seq (.region 2 Z1y3 false) c85S := rfl;rw [hcode];refine .calm (fun _ => Z21y) fun d1 => ?_;refine .calm (fun _ => Z1y8) fun d2 => ?_;obtain ⟨v6, t6, -, r6⟩ := Z1yv h1.er e6;have o6 : v6.oneCell' = true := by obtain ⟨b6, m6, -, rfl⟩ := Z26q r6; rfl
 have hval : Z1q ar TD s (fun x => x = .fn 104 [.cb (.v (.chan (some cb))) 0, .cb hD 0, .cb (mD x6 x8) 0, .cb (I 3) 0]) (.makeFunc (Fn.func 104) #[] #[Operand.tmp 7, Operand.tmp 4, Operand.tmp 3, Operand.tmp 5]) := by
  simp [Z1q, Zlz, evo, e7, e4, e3, e5, Z34]
 have ho : Z1y3[0]? = some ⟨some 11, .makeFunc (Fn.func 104) #[] #[Operand.tmp 7, Operand.tmp 4, Operand.tmp 3, Operand.tmp 5], 1, _, #[], none⟩ := rfl;have hl : List.range Z1y3.size = [0, 1] := rfl;rw [hl];refine Z24n (w := w) ho rfl hb rfl (fun d => ?_) d2;obtain ⟨g1, d', v, g2, hv, rfl⟩ := Zez (w := w.at d) Z0 (h1.hr.at d) h1.er (o := ⟨some 11, .makeFunc (Fn.func 104) #[] #[Operand.tmp 7, Operand.tmp 4, Operand.tmp 3, Operand.tmp 5], 1, _, #[], none⟩) hval;refine ⟨v, g2, Z1xp h1.er hval, ?_⟩;refine (Z229 h1 hkc hnt hds e7 t6 o6 hv b hb k cs d).trans fun fr cs' wf hf => ?_;obtain ⟨rfl, F6, a6, rfl, hpost, hrl⟩ := Z24m h1 hkc r6 hf;refine (Z1wj [1] a6 wf (hT.out F6 μ a6 wf hrl) b _ cs' hb wf.drawn).trans fun fr cs' w7 ⟨hc, e, a7, w7', hq, ⟨d7, hw7⟩, hf⟩ => ?_;subst hc hw7;obtain ⟨F7, μ7, s7, x7, p1, p2, p3, p4, rfl, hT2⟩ := hq
 cases e <;> try exact p4.elim
 obtain rfl : fr = _ := hf;refine (hT2.out F7 μ7 a7 w7' p3 d7 b _ cs' hb).trans fun fr cs' w8 ⟨hc, e, a8, w8', hq, ⟨d8, hw8⟩, hf⟩ => ?_;subst hc hw8;obtain ⟨F8, μ8, s8, x8', q1, q2, q3, q4, rfl, hT3⟩ := hq
 cases e <;> try exact q4.elim
 rename_i id
 obtain rfl : id = 0 := q4;obtain ⟨k₁, hk1, rfl⟩ := hf;have hk2 : exitTo 0 k₁ = some (.code c85E :: k) := by rw [hk1]; simp [exitTo]
 refine .calm (fun _ => Z20h hk2) fun d9 => ?_;refine (hT3.out F8 μ8 a8 w8' q3 d9 b k cs' hb).mono fun fr cs' w9 hA => hA.mono fun e a w hq => ?_;exact hq.trans ((hpost.trans p1).trans q1) kp0
theorem Z24o {r : Option Nat} {m : Nat} {ops : Array Oper} {Q : AX -> St -> Prop} {l : List Nat} {s : St} (h : ∀ K : List Nat -> St -> Prop, (∀ l s', OpsA Tryz.prog r m ops Q l s' -> K l s') -> Z4h ar TD ops K l s) : OpsA Tryz.prog r m ops Q l s :=
 Z3v Z0 (K := fun l s => OpsA Tryz.prog r m ops Q l s) (fun _ _ h => h) l s (h _ fun _ _ h => h)
theorem Z282 {c : Code} {Q : AX -> St -> Prop} {s : St} (kk : List Nat) (h : ∀ K : St -> Prop, (∀ s', WpA Tryz.prog none 0 c Q s' -> K s') -> Zij ar kk s K) : WpA Tryz.prog none 0 c Q s := Z25j kk (h _ fun _ h => h)
def xL : D := .sl 3 [.agg [I 0, I 0, I 0], .agg [I 0, I 1, I 2]]
def xC : D := .sl 1 [I 0, I 0]
set_option maxRecDepth 40000 in
set_option maxHeartbeats 16000000 in
theorem Z25r (Q : RA -> List Blk -> Prop) (hq : Q (.ret (st6 3)) []) : CallA Tryz.prog 85 [mD xL xC, hD, I 3] [] Q := by
 refine Zcb (Zfb Z0 (f := 85) (fn := Tryz.f85) (c := cB85) Tryz.func85 rfl rfl rfl ?_);refine Z21g fun K hK => ?_;refine Z1ya Z0 fun A S hA hS => ?_;subst hA;cbv;refine hK _ ?_;clear hK K hS S;refine Z21g fun K hK => ?_;obtain ⟨i, -, -, hi, -⟩ := Z0.at (t := 174) rfl;refine Zbh (Z3k rfl rfl (Z224 u195 hi rfl fun cb => ?_));refine Z24o fun K' hK' => ?_;cbv;refine hK' _ _ (Zf6 (hK _ ?_));clear hK' K' hK K;refine Z282 [0, 1, 2, 5] fun K hK => ?_;cbv;refine hK _ ?_;clear hK K;refine Z25q (x6 := xL) (x8 := xC) (cb := cb) (k6 := 3) (kc := 4) rfl rfl rfl rfl rfl rfl rfl rfl (Z24o fun K hK => ?_);cbv;refine hK _ _ (Zf6 ⟨rfl, ?_⟩);clear hK K;refine Z26r fun K hK => Z1ya Z0 fun A S hA hS => ?_;subst hA;cbv;refine hK _ _ ⟨rfl, ?_⟩;clear hK K hS S;refine Z26r fun K hK => Z1ya Z0 fun A S hA hS => ?_;subst hA;cbv;refine hK _ _ ?_;clear hK K hS S;refine ⟨rfl, ?_⟩;cbv;refine Z2 (H' := []) (d' := st6 3) [] (by simp) (fun i hi => absurd hi (by simp)) trivial rfl (Z1 hq)
end Go.Proofs.YtggilmnhgjofiaaGreat

namespace Go.Proofs.YtggilmnhgjofiaaGreat
open Go Go.Abs Go.Proofs
theorem Z1ze (n lo hi : Int) (Q) (hq : Q (RA.ret (.v (.bool (decide (lo <= n) && decide (n <= hi))))) []) : CallA Tryz.prog 102 [I n, I lo, I hi] [] Q := by
 obtain ⟨A, hA⟩ : ∃ A, A = ar := ⟨_, rfl⟩;refine Z5 Z0 hA Tryz.func102 rfl rfl rfl rfl rfl fun S hS => ?_;cbv
 split
 ·rename_i hc
  cbv;refine Z1 ?_;subst hA;have h1 : lo <= n := by simpa [ar, Z25] using hc
  have e : (decide (lo <= n) && decide (n <= hi)) = ar.cmp .leq n hi := by simp [ar, Z25, h1]
  rw [e] at hq;exact hq
 ·rename_i hc
  cbv;refine Z1 ?_;subst hA;have h1 : ¬ lo <= n := by simpa [ar, Z25] using hc
  have e : (decide (lo <= n) && decide (n <= hi)) = false := by simp [h1]
  rw [e] at hq;exact hq
theorem Z23m (Q) (hq : Q (RA.ret (I 0)) []) : CallA Tryz.prog 82 [.sl 1 [I 0], I 1] [] Q := by
 refine Z5 (A := ar) Z0 rfl Tryz.func82 rfl rfl rfl rfl rfl fun S hS => ?_;cbv;refine Z1uo Z0 hS 2 fun L hL => ?_;cbv
 repeat (first | (refine ⟨Int.NonNeg.mk _, ?_⟩) | (refine Need.mk ⟨_, rfl, ?_⟩; cbv))
 refine Z4 hS [I 0, I 0, I 0] [] [] rfl rfl rfl rfl rfl rfl rfl rfl (by decide) trivial (Z1ze _ _ _ _ ?_);refine Z3 (A := ar) Z0 rfl hS ?_;cbv
 repeat (first | (refine ⟨Int.NonNeg.mk _, ?_⟩) | (refine Need.mk ⟨_, rfl, ?_⟩; cbv))
 refine Z1ut Z0 hS hL fun L hL => ?_;cbv;exact Z1 hq
theorem Z22a (Q) (hq : Q (RA.ret (I 0)) []) : CallA Tryz.prog 82 [.v (.slice none 0 0), I 0] [] Q := by
 refine Z5 (A := ar) Z0 rfl Tryz.func82 rfl rfl rfl rfl rfl fun S hS => ?_;cbv;refine Z1uo Z0 hS 2 fun L hL => ?_;cbv;exact Z1 hq
set_option maxRecDepth 40000 in
set_option maxHeartbeats 8000000 in
theorem Z25s (Q) (hq : Q (RA.ret (I 0)) []) : CallA Tryz.prog 81 [mD xL xC] [] Q := by
 refine Z5 (A := ar) Z0 rfl Tryz.func81 rfl rfl rfl rfl rfl fun S hS => ?_;cbv
 repeat (first
  | (refine ⟨Int.NonNeg.mk _, ?_⟩)
  | (refine Need.mk ⟨_, rfl, ?_⟩; cbv)
  | (refine Z4 hS [I _, I _, I _] [] [] rfl rfl rfl rfl rfl rfl rfl rfl (by decide) trivial (Z1ze _ _ _ _ (Z3 (A := ar) Z0 rfl hS ?_)); cbv)
  | (refine Zg hS (b := false) rfl rfl rfl rfl rfl rfl rfl rfl (fun _ => ⟨[], _, [I _, I _, I _], [], [], rfl, rfl, rfl, by decide, trivial, Z1ze _ _ _ _ (Z3 (A := ar) Z0 rfl hS ?_)⟩) (fun h => absurd rfl h); cbv)
  | (refine Z1uo Z0 hS 4 fun L hL => ?_; cbv)
  | (refine Z1ut Z0 hS hL fun L hL => ?_; cbv))
 exact Z2 (H' := []) (d' := I 0) [] (by simp) (fun i hi => absurd hi (by simp)) trivial rfl (Z1 hq)
end Go.Proofs.YtggilmnhgjofiaaGreat

namespace Go.Proofs.YtggilmnhgjofiaaGreat
open Go Go.Abs Go.Proofs
set_option maxRecDepth 40000 in
set_option maxHeartbeats 8000000 in
theorem Z283 (Q) (hq : Q (RA.ret (I 0)) []) : CallA Tryz.prog 54 [mD xL xC, hD] [] Q := by
 refine Z5 (A := ar) Z0 rfl Tryz.func54 rfl rfl rfl rfl rfl fun S hS => ?_;cbv
 repeat (first
  | (refine ⟨Int.NonNeg.mk _, ?_⟩)
  | (refine Need.mk ⟨_, rfl, ?_⟩; cbv)
  | (refine ⟨by decide, ?_⟩)
  | (refine Z4 hS [mD xL xC] [] [] rfl rfl rfl rfl rfl rfl rfl rfl (by decide) trivial (Z25s _ (Z3 (A := ar) Z0 rfl hS ?_)); cbv)
  | (refine Z4 hS [.sl 1 [I 0], I 1] [] [] rfl rfl rfl rfl rfl rfl rfl rfl (by decide) trivial (Z23m _ (Z3 (A := ar) Z0 rfl hS ?_)); cbv)
  | (refine Z4 hS [.v (.slice none 0 0), I 0] [] [] rfl rfl rfl rfl rfl rfl rfl rfl (by decide) trivial (Z22a _ (Z3 (A := ar) Z0 rfl hS ?_)); cbv)
  | (refine Z1uo Z0 hS 7 fun L hL => ?_; cbv)
  | (refine Z1ut Z0 hS hL fun L hL => ?_; cbv))
 exact Z2 (H' := []) (d' := (I 0)) [] (by simp) (fun i hi => absurd hi (by simp)) trivial rfl (Z1 hq)
set_option maxRecDepth 40000 in
set_option maxHeartbeats 8000000 in
theorem Z274 (Q) (hq : Q (RA.ret (I 1)) []) : CallA Tryz.prog 86 [I 0, I 0] [] Q := by
 refine Z5 (A := ar) Z0 rfl Tryz.func86 rfl rfl rfl rfl rfl fun S hS => ?_;cbv
 repeat (first
  | (refine ⟨Int.NonNeg.mk _, ?_⟩)
  | (refine Need.mk ⟨_, rfl, ?_⟩; cbv)
  | (refine ⟨by decide, ?_⟩)
  | (refine Z1uo Z0 hS 7 fun L hL => ?_; cbv)
  | (refine Z1ut Z0 hS hL fun L hL => ?_; cbv))
 exact Z2 (H' := []) (d' := (I 1)) [] (by simp) (fun i hi => absurd hi (by simp)) trivial rfl (Z1 hq)
set_option maxRecDepth 40000 in
set_option maxHeartbeats 8000000 in
theorem Z284 (Q) (hq : Q (RA.ret (.v (.bool true))) []) : CallA Tryz.prog 87 [I 1, I 0] [] Q := by
 refine Z5 (A := ar) Z0 rfl Tryz.func87 rfl rfl rfl rfl rfl fun S hS => ?_;cbv
 repeat (first
  | (refine ⟨Int.NonNeg.mk _, ?_⟩)
  | (refine Need.mk ⟨_, rfl, ?_⟩; cbv)
  | (refine ⟨by decide, ?_⟩)
  | (refine Z1uo Z0 hS 7 fun L hL => ?_; cbv)
  | (refine Z1ut Z0 hS hL fun L hL => ?_; cbv))
 exact Z2 (H' := []) (d' := (.v (.bool true))) [] (by simp) (fun i hi => absurd hi (by simp)) trivial rfl (Z1 hq)
set_option maxRecDepth 40000 in
set_option maxHeartbeats 8000000 in
theorem Z285 (Q) (hq : Q (RA.ret (.v (.bool false))) []) : CallA Tryz.prog 87 [I 1, I 1] [] Q := by
 refine Z5 (A := ar) Z0 rfl Tryz.func87 rfl rfl rfl rfl rfl fun S hS => ?_;cbv
 repeat (first
  | (refine ⟨Int.NonNeg.mk _, ?_⟩)
  | (refine Need.mk ⟨_, rfl, ?_⟩; cbv)
  | (refine ⟨by decide, ?_⟩)
  | (refine Z1uo Z0 hS 7 fun L hL => ?_; cbv)
  | (refine Z1ut Z0 hS hL fun L hL => ?_; cbv))
 exact Z2 (H' := []) (d' := (.v (.bool false))) [] (by simp) (fun i hi => absurd hi (by simp)) trivial rfl (Z1 hq)
set_option maxRecDepth 40000 in
set_option maxHeartbeats 8000000 in
theorem Z286 (Q) (hq : Q (RA.ret (.v (.bool false))) []) : CallA Tryz.prog 87 [I 1, I 2] [] Q := by
 refine Z5 (A := ar) Z0 rfl Tryz.func87 rfl rfl rfl rfl rfl fun S hS => ?_;cbv
 repeat (first
  | (refine ⟨Int.NonNeg.mk _, ?_⟩)
  | (refine Need.mk ⟨_, rfl, ?_⟩; cbv)
  | (refine ⟨by decide, ?_⟩)
  | (refine Z1uo Z0 hS 7 fun L hL => ?_; cbv)
  | (refine Z1ut Z0 hS hL fun L hL => ?_; cbv))
 exact Z2 (H' := []) (d' := (.v (.bool false))) [] (by simp) (fun i hi => absurd hi (by simp)) trivial rfl (Z1 hq)
set_option maxRecDepth 40000 in
set_option maxHeartbeats 8000000 in
theorem Z287 (Q) (hq : Q (RA.ret (.v (.bool false))) []) : CallA Tryz.prog 87 [I 1, I 3] [] Q := by
 refine Z5 (A := ar) Z0 rfl Tryz.func87 rfl rfl rfl rfl rfl fun S hS => ?_;cbv
 repeat (first
  | (refine ⟨Int.NonNeg.mk _, ?_⟩)
  | (refine Need.mk ⟨_, rfl, ?_⟩; cbv)
  | (refine ⟨by decide, ?_⟩)
  | (refine Z1uo Z0 hS 7 fun L hL => ?_; cbv)
  | (refine Z1ut Z0 hS hL fun L hL => ?_; cbv))
 exact Z2 (H' := []) (d' := (.v (.bool false))) [] (by simp) (fun i hi => absurd hi (by simp)) trivial rfl (Z1 hq)
set_option maxRecDepth 40000 in
set_option maxHeartbeats 8000000 in
theorem Z288 (Q) (hq : Q (RA.ret (.v (.bool false))) []) : CallA Tryz.prog 87 [I 1, I 4] [] Q := by
 refine Z5 (A := ar) Z0 rfl Tryz.func87 rfl rfl rfl rfl rfl fun S hS => ?_;cbv
 repeat (first
  | (refine ⟨Int.NonNeg.mk _, ?_⟩)
  | (refine Need.mk ⟨_, rfl, ?_⟩; cbv)
  | (refine ⟨by decide, ?_⟩)
  | (refine Z1uo Z0 hS 7 fun L hL => ?_; cbv)
  | (refine Z1ut Z0 hS hL fun L hL => ?_; cbv))
 exact Z2 (H' := []) (d' := (.v (.bool false))) [] (by simp) (fun i hi => absurd hi (by simp)) trivial rfl (Z1 hq)
set_option maxRecDepth 40000 in
set_option maxHeartbeats 8000000 in
theorem Z289 (Q) (hq : Q (RA.ret (.v (.bool false))) []) : CallA Tryz.prog 87 [I 1, I 5] [] Q := by
 refine Z5 (A := ar) Z0 rfl Tryz.func87 rfl rfl rfl rfl rfl fun S hS => ?_;cbv
 repeat (first
  | (refine ⟨Int.NonNeg.mk _, ?_⟩)
  | (refine Need.mk ⟨_, rfl, ?_⟩; cbv)
  | (refine ⟨by decide, ?_⟩)
  | (refine Z1uo Z0 hS 7 fun L hL => ?_; cbv)
  | (refine Z1ut Z0 hS hL fun L hL => ?_; cbv))
 exact Z2 (H' := []) (d' := (.v (.bool false))) [] (by simp) (fun i hi => absurd hi (by simp)) trivial rfl (Z1 hq)
end Go.Proofs.YtggilmnhgjofiaaGreat

namespace Go.Proofs.YtggilmnhgjofiaaGreat
open Go Go.Abs Go.Proofs
set_option maxRecDepth 40000 in
set_option maxHeartbeats 8000000 in
theorem Z25t (Q) (hq : Q (RA.ret (.o 0 1 2)) [.els 1 [I 3, I 1]]) : CallA Tryz.prog 84 [mD xL xC, st6 3] [] Q := by
 refine Z5 (A := ar) Z0 rfl Tryz.func84 rfl rfl rfl rfl rfl fun S hS => ?_;cbv
 repeat (first
  | (refine ⟨Int.NonNeg.mk _, ?_⟩)
  | (refine Need.mk ⟨_, rfl, ?_⟩; cbv)
  | (refine ⟨by decide, ?_⟩)
  | (refine Z16 (A := ar) Z0 rfl hS [0, 1, 2, 3, 4, 5, 6, 7, 8, 9, 10, 11, 12, 13, 14, 15, 16, 17] rfl rfl fun Dk hD => ?_; cbv)
  | (refine Z1uo Z0 hS 7 fun L hL => ?_; cbv)
  | (refine Z1ut Z0 hS hL fun L hL => ?_; cbv))
 exact Z2 (H' := [.els 1 [I 3, I 1]]) (d' := .o 0 1 2) [2] (by simp) (fun i hi => absurd hi (by simp)) ⟨rfl, trivial⟩ rfl (Z1 hq)
set_option maxRecDepth 40000 in
set_option maxHeartbeats 8000000 in
theorem Z275 (Q) (hq : Q (RA.ret (.o 0 1 1)) [.els 1 [I 0]]) : CallA Tryz.prog 56 [I 1] [] Q := by
 refine Z5 (A := ar) Z0 rfl Tryz.func56 rfl rfl rfl rfl rfl fun S hS => ?_;cbv
 repeat (first
  | (refine ⟨Int.NonNeg.mk _, ?_⟩)
  | (refine Need.mk ⟨_, rfl, ?_⟩; cbv)
  | (refine ⟨by decide, ?_⟩)
  | (refine Z4 hS [I 1, I 0] [] [] rfl rfl rfl rfl rfl rfl rfl rfl (by decide) trivial (Z284 _ (Z3 (A := ar) Z0 rfl hS ?_)); cbv)
  | (refine Z4 hS [I 1, I 1] [] [] rfl rfl rfl rfl rfl rfl rfl rfl (by decide) trivial (Z285 _ (Z3 (A := ar) Z0 rfl hS ?_)); cbv)
  | (refine Z4 hS [I 1, I 2] [] [] rfl rfl rfl rfl rfl rfl rfl rfl (by decide) trivial (Z286 _ (Z3 (A := ar) Z0 rfl hS ?_)); cbv)
  | (refine Z4 hS [I 1, I 3] [] [] rfl rfl rfl rfl rfl rfl rfl rfl (by decide) trivial (Z287 _ (Z3 (A := ar) Z0 rfl hS ?_)); cbv)
  | (refine Z4 hS [I 1, I 4] [] [] rfl rfl rfl rfl rfl rfl rfl rfl (by decide) trivial (Z288 _ (Z3 (A := ar) Z0 rfl hS ?_)); cbv)
  | (refine Z4 hS [I 1, I 5] [] [] rfl rfl rfl rfl rfl rfl rfl rfl (by decide) trivial (Z289 _ (Z3 (A := ar) Z0 rfl hS ?_)); cbv)
  | (refine Z1uo Z0 hS 7 fun L hL => ?_; cbv)
  | (refine Z1ut Z0 hS hL fun L hL => ?_; cbv))
 exact Z2 (H' := [.els 1 [I 0]]) (d' := .o 0 1 1) [1] (by simp) (fun i hi => absurd hi (by simp)) ⟨rfl, trivial⟩ rfl (Z1 hq)
theorem Z23n (Q) (hq : Q (RA.ret (.fn 83 [.b 0 0])) [.box (mD xL xC)]) : CallA Tryz.prog 55 [mD xL xC] [] Q := by
 refine Z5 (A := ar) Z0 rfl Tryz.func55 rfl rfl rfl rfl rfl fun S hS => ?_;cbv;exact Z1 hq
end Go.Proofs.YtggilmnhgjofiaaGreat

namespace Go.Proofs.YtggilmnhgjofiaaGreat
open Go Go.Abs Go.Proofs
set_option maxRecDepth 40000 in
set_option maxHeartbeats 8000000 in
theorem Z22b (Q) (hq : Q (RA.ret (I 1)) [.box (mD xL xC)]) : CallA Tryz.prog 83 [hD, I 3, .b 0 0] [.box (mD xL xC)] Q := by
 refine Z5 (A := ar) Z0 rfl Tryz.func83 rfl rfl rfl rfl rfl fun S hS => ?_;cbv;refine Z16 (A := ar) Z0 rfl hS [0, 1, 2, 3, 7, 4, 5, 6] rfl rfl fun Dk hDk => ?_;cbv;refine Zq (A := ar) rfl hDk [mD xL xC, hD, I 3] [] [] rfl rfl rfl rfl rfl rfl rfl rfl rfl rfl rfl (by decide) trivial (Z25r _ ⟨by cbv, Zx (A := ar) Z0 rfl hDk ?_⟩);cbv;refine Zq (A := ar) rfl hDk [mD xL xC, st6 3] [] [] rfl rfl rfl rfl rfl rfl rfl rfl rfl rfl rfl (by decide) trivial (Z25t _ ⟨by cbv, Zx (A := ar) Z0 rfl hDk ?_⟩);cbv
 repeat (first
  | (refine ⟨Int.NonNeg.mk _, ?_⟩)
  | (refine Need.mk ⟨_, rfl, ?_⟩; cbv)
  | (refine ⟨by decide, ?_⟩)
  | (refine Z4 hS [I 0, I 0] [] [] rfl rfl rfl rfl rfl rfl rfl rfl (by decide) trivial (Z274 _ (Z3 (A := ar) Z0 rfl hS ?_)); cbv)
  | (refine Z1uo Z0 hS 7 fun L hL => ?_; cbv)
  | (refine Z1ut Z0 hS hL fun L hL => ?_; cbv))
 exact Z2 (H' := [.box (mD xL xC)]) (d' := I 1) [0] (by simp) (fun i hi => by obtain rfl : i = 0 := (Nat.lt_one_iff.1 hi); rfl) ⟨rfl, trivial⟩ rfl (Z1 hq)
set_option maxRecDepth 40000 in
set_option maxHeartbeats 8000000 in
theorem Z25u (Q) (hq : Q (RA.ret (.tup [.o 0 1 1, I 0])) [.els 1 [I 0]]) : CallA Tryz.prog 27 [mD xL xC, hD] [] Q := by
 refine Z5 (A := ar) Z0 rfl Tryz.func27 rfl rfl rfl rfl rfl fun S hS => ?_;cbv;refine Z4 hS [mD xL xC, hD] [] [] rfl rfl rfl rfl rfl rfl rfl rfl (by decide) trivial (Z283 _ (Z3 (A := ar) Z0 rfl hS ?_));cbv;refine Z16 (A := ar) Z0 rfl hS [0, 2, 3, 4, 1, 5, 6, 7, 8] rfl rfl fun Dk hDk => ?_;cbv;refine Zq (A := ar) rfl hDk [mD xL xC] [] [] rfl rfl rfl rfl rfl rfl rfl rfl rfl rfl rfl (by decide) trivial (Z23n _ ⟨by cbv, Zx (A := ar) Z0 rfl hDk ?_⟩);cbv;refine Zq (A := ar) rfl hDk [hD, I 3, .b 0 0] [2] [.box (mD xL xC)] rfl rfl rfl rfl rfl rfl rfl rfl rfl rfl rfl (by decide) ⟨rfl, trivial⟩ (Z22b _ ⟨by cbv, Zx (A := ar) Z0 rfl hDk ?_⟩);cbv;refine Zq (A := ar) rfl hDk [I 1] [] [] rfl rfl rfl rfl rfl rfl rfl rfl rfl rfl rfl (by decide) trivial (Z275 _ ⟨by cbv, Zx (A := ar) Z0 rfl hDk ?_⟩);cbv;exact Z2 (H' := [.els 1 [I 0]]) (d' := .tup [.o 0 1 1, I 0]) [3] (by simp) (fun i hi => absurd hi (by simp)) ⟨rfl, trivial⟩ rfl (Z1 hq)
end Go.Proofs.YtggilmnhgjofiaaGreat

namespace Go.Proofs.YtggilmnhgjofiaaGreat
open Go Go.Abs Go.Proofs
set_option maxRecDepth 40000 in
set_option maxHeartbeats 8000000 in
theorem Z276 (Q) (hq : Q (RA.ret (.v (.bool true))) []) : CallA Tryz.prog 28 [.sl 1 [I 0], .sl 1 [I 0]] [] Q := by
 refine Z5 (A := ar) Z0 rfl Tryz.func28 rfl rfl rfl rfl rfl fun S hS => ?_;cbv
 repeat (first
  | (refine ⟨Int.NonNeg.mk _, ?_⟩)
  | (refine Need.mk ⟨_, rfl, ?_⟩; cbv)
  | (refine ⟨by decide, ?_⟩)
  | (refine Z16 (A := ar) Z0 rfl hS [0, 1, 2, 3, 4, 5, 6, 7, 8, 9] rfl rfl fun Dk hD => ?_; cbv)
  | (refine Z1uo Z0 hS 7 fun L hL => ?_; cbv)
  | (refine Z1ut Z0 hS hL fun L hL => ?_; cbv))
 exact Z1 hq
set_option maxRecDepth 40000 in
set_option maxHeartbeats 8000000 in
theorem Z277 (Q) (hq : Q (RA.ret (.v (.bool true))) []) : CallA Tryz.prog 28 [.sl 1 [I 1], .sl 1 [I 1]] [] Q := by
 refine Z5 (A := ar) Z0 rfl Tryz.func28 rfl rfl rfl rfl rfl fun S hS => ?_;cbv
 repeat (first
  | (refine ⟨Int.NonNeg.mk _, ?_⟩)
  | (refine Need.mk ⟨_, rfl, ?_⟩; cbv)
  | (refine ⟨by decide, ?_⟩)
  | (refine Z16 (A := ar) Z0 rfl hS [0, 1, 2, 3, 4, 5, 6, 7, 8, 9] rfl rfl fun Dk hD => ?_; cbv)
  | (refine Z1uo Z0 hS 7 fun L hL => ?_; cbv)
  | (refine Z1ut Z0 hS hL fun L hL => ?_; cbv))
 exact Z1 hq
end Go.Proofs.YtggilmnhgjofiaaGreat

namespace Go.Proofs.YtggilmnhgjofiaaGreat
open Go Go.Abs Go.Proofs
theorem Z1w3 (n lo hi : Int) (Q) (hq : Q (RA.ret (.v (.bool (decide (lo <= n) && decide (n <= hi))))) []) : CallA Tryz.prog 65 [I n, I lo, I hi] [] Q := by
 obtain ⟨A, hA⟩ : ∃ A, A = ar := ⟨_, rfl⟩;refine Z5 Z0 hA Tryz.func65 rfl rfl rfl rfl rfl fun S hS => ?_;cbv
 split
 ·rename_i hc
  cbv;refine Z1 ?_;subst hA;have h1 : lo <= n := by simpa [ar, Z25] using hc
  have e : (decide (lo <= n) && decide (n <= hi)) = ar.cmp .leq n hi := by simp [ar, Z25, h1]
  rw [e] at hq;exact hq
 ·rename_i hc
  cbv;refine Z1 ?_;subst hA;have h1 : ¬ lo <= n := by simpa [ar, Z25] using hc
  have e : (decide (lo <= n) && decide (n <= hi)) = false := by simp [h1]
  rw [e] at hq;exact hq
theorem Z24p (a b c d : Int) (h : -1000000000000 <= a /\ a <= 1000000000000 /\ -1000000000000 <= b /\ b <= 1000000000000) (h' : -1000000000000 <= c /\ c <= 1000000000000 /\ -1000000000000 <= d /\ d <= 1000000000000) (Q) (hq : Q (RA.ret (.agg [I (a + c), I (b + d)])) []) :
  CallA Tryz.prog 95 [.agg [I a, I b], .agg [I c, I d]] [] Q := by
 obtain ⟨A, hA⟩ : ∃ A, A = ar := ⟨_, rfl⟩;refine Z5 Z0 hA Tryz.func95 rfl rfl rfl rfl rfl fun S hS => ?_;cbv;subst hA;refine ⟨Zbu (n := a + c) (by omega), Zbu (n := b + d) (by omega), ?_⟩;exact Z2 (H' := []) (d' := .agg [I (a + c), I (b + d)]) [] (by simp) (fun i hi => absurd hi (by simp)) trivial rfl (Z1 hq)
theorem Z24q (a b c d : Int) (h : -1000000000000 <= a /\ a <= 1000000000000 /\ -1000000000000 <= b /\ b <= 1000000000000) (h' : -1000000000000 <= c /\ c <= 1000000000000 /\ -1000000000000 <= d /\ d <= 1000000000000) (Q) (hq : Q (RA.ret (.agg [I (a - d), I (b - c)])) []) :
  CallA Tryz.prog 67 [.agg [I a, I b], .agg [I c, I d]] [] Q := by
 obtain ⟨A, hA⟩ : ∃ A, A = ar := ⟨_, rfl⟩;refine Z5 Z0 hA Tryz.func67 rfl rfl rfl rfl rfl fun S hS => ?_;cbv;subst hA;refine ⟨Zbu (n := a - d) (by omega), Zbu (n := b - c) (by omega), ?_⟩;exact Z2 (H' := []) (d' := .agg [I (a - d), I (b - c)]) [] (by simp) (fun i hi => absurd hi (by simp)) trivial rfl (Z1 hq)
theorem Z1yb {n a : Int} (hn : 0 <= n /\ n <= 1000) (ha : -1000000000 <= a /\ a <= 1000000000) : -1000000000000 <= n * a /\ n * a <= 1000000000000 := by
 constructor
 ·have h1 := Int.mul_le_mul_of_nonneg_left ha.1 hn.1;have h2 : n * 1000000000 <= 1000 * 1000000000 := Int.mul_le_mul_of_nonneg_right hn.2 (by decide);omega
 ·have h1 := Int.mul_le_mul_of_nonneg_left ha.2 hn.1;have h2 : n * 1000000000 <= 1000 * 1000000000 := Int.mul_le_mul_of_nonneg_right hn.2 (by decide);omega
theorem Z22z (a b n : Int) (hn : 0 <= n /\ n <= 1000) (ha : -1000000000 <= a /\ a <= 1000000000) (hb : -1000000000 <= b /\ b <= 1000000000) (Q) (hq : Q (RA.ret (.agg [I (n * a), I (n * b)])) []) :
  CallA Tryz.prog 94 [.agg [I a, I b], I n] [] Q := by
 obtain ⟨A, hA⟩ : ∃ A, A = ar := ⟨_, rfl⟩;refine Z5 Z0 hA Tryz.func94 rfl rfl rfl rfl rfl fun S hS => ?_;cbv;subst hA;have h1 := Z1yb hn ha;have h2 := Z1yb hn hb;refine ⟨Zbu (n := n * a) (by omega), Zbu (n := n * b) (by omega), ?_⟩;exact Z2 (H' := []) (d' := .agg [I (n * a), I (n * b)]) [] (by simp) (fun i hi => absurd hi (by simp)) trivial rfl (Z1 hq)
end Go.Proofs.YtggilmnhgjofiaaGreat

namespace Go.Proofs.YtggilmnhgjofiaaGreat
open Go Go.Abs Go.Proofs
def Z1tm (a : Int) : Prop := -1000000 <= a /\ a <= 1000000
set_option maxRecDepth 40000 in
set_option maxHeartbeats 4000000 in
theorem Z28a (a b c d a' b' c' d' n : Int) (hn : 0 <= n /\ n <= 1000) (h : Z1tm a /\ Z1tm b /\ Z1tm c /\ Z1tm d /\ Z1tm c' /\ Z1tm d') (Q) (hq : Q (RA.ret (.agg [I (n * c' - (b + n * d)), I (n * d' - (a + n * c))])) []) :
  CallA Tryz.prog 68 [.agg [I a, I b, I c, I d], .agg [I a', I b', I c', I d'], I n] [] Q := by
 obtain ⟨A, hA⟩ : ∃ A, A = ar := ⟨_, rfl⟩;obtain ⟨ha, hb, hc, hd, hc', hd'⟩ := h;simp only [Z1tm] at ha hb hc hd hc' hd';have m1 := Z1yb hn (show -1000000000 <= c /\ c <= 1000000000 by omega);have m2 := Z1yb hn (show -1000000000 <= d /\ d <= 1000000000 by omega);have m3 := Z1yb hn (show -1000000000 <= c' /\ c' <= 1000000000 by omega);have m4 := Z1yb hn (show -1000000000 <= d' /\ d' <= 1000000000 by omega);have k1 : n * c <= 1000000000 /\ -1000000000 <= n * c := by
  constructor
  ·have h1 := Int.mul_le_mul_of_nonneg_left hc.2 hn.1;have h2 : n * 1000000 <= 1000 * 1000000 := Int.mul_le_mul_of_nonneg_right hn.2 (by decide);omega
  ·have h1 := Int.mul_le_mul_of_nonneg_left hc.1 hn.1;have h2 : n * 1000000 <= 1000 * 1000000 := Int.mul_le_mul_of_nonneg_right hn.2 (by decide);omega
 have k2 : n * d <= 1000000000 /\ -1000000000 <= n * d := by
  constructor
  ·have h1 := Int.mul_le_mul_of_nonneg_left hd.2 hn.1;have h2 : n * 1000000 <= 1000 * 1000000 := Int.mul_le_mul_of_nonneg_right hn.2 (by decide);omega
  ·have h1 := Int.mul_le_mul_of_nonneg_left hd.1 hn.1;have h2 : n * 1000000 <= 1000 * 1000000 := Int.mul_le_mul_of_nonneg_right hn.2 (by decide);omega
 refine Z5 Z0 hA Tryz.func68 rfl rfl rfl rfl rfl fun S hS => ?_;cbv;refine Z16 Z0 hA hS [0, 1, 2, 4, 5, 6, 7, 8, 3, 9, 10, 11, 12] rfl rfl fun Dk hD => ?_;cbv;refine Zq hA hD [.agg [I c', I d'], I n] [] [] rfl rfl rfl rfl rfl rfl rfl rfl rfl rfl rfl (by decide) trivial (Z22z c' d' n hn (by omega) (by omega) _ ⟨by cbv, Zx Z0 hA hD ?_⟩);cbv;refine Zq hA hD [.agg [I c, I d], I n] [] [] rfl rfl rfl rfl rfl rfl rfl rfl rfl rfl rfl (by decide) trivial (Z22z c d n hn (by omega) (by omega) _ ⟨by cbv, Zx Z0 hA hD ?_⟩);cbv;refine Zq hA hD [.agg [I a, I b], .agg [I (n * c), I (n * d)]] [] [] rfl rfl rfl rfl rfl rfl rfl rfl rfl rfl rfl (by decide) trivial (Z24p a b (n * c) (n * d) (by omega) (by omega) _ ⟨by cbv, Zx Z0 hA hD ?_⟩);cbv;refine Zq hA hD [.agg [I (n * c'), I (n * d')], .agg [I (a + n * c), I (b + n * d)]] [] [] rfl rfl rfl rfl rfl rfl rfl rfl rfl rfl rfl (by decide) trivial (Z24q (n * c') (n * d') (a + n * c) (b + n * d) (by omega) (by omega) _ ⟨by cbv, Zx Z0 hA hD ?_⟩);cbv;exact Z2 (H' := []) (d' := .agg [I (n * c' - (b + n * d)), I (n * d' - (a + n * c))]) [] (by simp) (fun i hi => absurd hi (by simp)) trivial rfl (Z1 hq)
end Go.Proofs.YtggilmnhgjofiaaGreat

namespace Go.Proofs.YtggilmnhgjofiaaGreat
open Go Go.Abs Go.Proofs
def btD (a b c d a' b' c' d' : Int) (n : Nat) : D := .agg [I (a' + (n * c' - (b + n * d))), I (b' + (n * d' - (a + n * c)))]
theorem Z1vb {n a : Int} (hn : 0 <= n /\ n <= 1000) (ha : -1000000 <= a /\ a <= 1000000) : -1000000000 <= n * a /\ n * a <= 1000000000 := by
 have h2 : n * 1000000 <= 1000 * 1000000 := Int.mul_le_mul_of_nonneg_right hn.2 (by decide);have h3 := Int.mul_le_mul_of_nonneg_left ha.1 hn.1;have h4 := Int.mul_le_mul_of_nonneg_left ha.2 hn.1;omega
theorem Z24r (a b c d a' b' c' d' n : Int) (hn : 0 <= n /\ n <= 1000) (h : Z1tm a /\ Z1tm b /\ Z1tm c /\ Z1tm d /\ Z1tm c' /\ Z1tm d') (Q) (hq : ∀ x y, x = n * c' - (b + n * d) -> y = n * d' - (a + n * c) -> Q (RA.ret (.agg [I x, I y])) []) :
  CallA Tryz.prog 68 [.agg [I a, I b, I c, I d], .agg [I a', I b', I c', I d'], I n] [] Q := Z28a a b c d a' b' c' d' n hn h Q (hq _ _ rfl rfl)
theorem Z278 (a b c d : Int) (h : -1000000000000 <= a /\ a <= 1000000000000 /\ -1000000000000 <= b /\ b <= 1000000000000) (h' : -1000000000000 <= c /\ c <= 1000000000000 /\ -1000000000000 <= d /\ d <= 1000000000000) (Q) (hq : ∀ x y, x = a + c -> y = b + d -> Q (RA.ret (.agg [I x, I y])) []) :
  CallA Tryz.prog 95 [.agg [I a, I b], .agg [I c, I d]] [] Q := Z24p a b c d h h' Q (hq _ _ rfl rfl)
set_option maxRecDepth 40000 in
set_option maxHeartbeats 4000000 in
theorem Z279 (l0 l1 l2 : Int) (l3 : Nat) (a b c d a' b' c' d' : Int) (hn : l3 <= 100) (h : Z1tm a /\ Z1tm b /\ Z1tm c /\ Z1tm d /\ Z1tm c' /\ Z1tm d') (h' : Z1tm a' /\ Z1tm b') (Q) (hq : Q (RA.ret (.o 0 2 (l3 + 1))) [.els 2 ((List.range (l3 + 1)).map (btD a b c d a' b' c' d'))]) :
  CallA Tryz.prog 101 [.agg [I l0, I l1, I l2, I l3], .agg [I a, I b, I c, I d], .agg [I a', I b', I c', I d']] [] Q := by
 obtain ⟨A, hA⟩ : ∃ A, A = ar := ⟨_, rfl⟩;refine Z5 Z0 hA Tryz.func101 rfl rfl rfl rfl rfl fun S hS => ?_;cbv;refine ⟨by subst hA; exact Zbu (n := (l3 : Int) + 1) (by omega), ?_⟩;refine Zpi hS 7 2 rfl ?_;cbv;refine Zb hS ?_;refine Zgw (α := Int × Nat × List D) (fun x => { env := [(3, .b 0 0), (4, .b 1 0), (5, .b 2 0), (7, .o 3 2 x.2.1), (11, .v (.int .i64 (A.add l3 1))), (12, .v (.int .i64 x.1))], H := [.box (.agg [I l0, I l1, I l2, I l3]), .box (.agg [I a, I b, I c, I d]), .box (.agg [I a', I b', I c', I d']), .els 2 x.2.2], nt := 27, dfs := [] }) (fun x => l3 + 1 - x.2.1) (fun x => x.2.1 <= l3 + 1 /\ x.1 = x.2.1 /\ x.2.2 = (List.range x.2.1).map (btD a b c d a' b' c' d')) (0, 0, []) ⟨Nat.zero_le _, rfl, rfl⟩ [0, 1, 2, 3] ?_ ?_
 ·exact ⟨by decide, fun i hi => absurd hi (by simp), ⟨rfl, rfl, rfl, rfl, trivial⟩, ⟨rfl, rfl, rfl, rfl, rfl, rfl, trivial⟩, rfl, rfl⟩
 rintro ⟨i, k, es⟩ ⟨hk, hi, hes⟩
 replace hk : k <= l3 + 1 := hk
 replace hi : i = (k : Int) := hi
 replace hes : es = (List.range k).map (btD a b c d a' b' c' d') := hes
 refine Zi Z0 hA hS ?_;cbv
 split
 ·rename_i hc
  cbv
  replace hi : i = (k : Int) := hi
  have hlt : k < l3 + 1 := by subst hA; replace hc : decide (i < (l3 : Int) + 1) = true := hc; have := of_decide_eq_true hc; omega
  obtain ⟨ha, hb, hc1, hd, hc', hd'⟩ := id h;simp only [Z1tm] at ha hb hc1 hd hc' hd' h';have hin : 0 <= i /\ i <= 1000 := by omega
  have k1 := Z1vb hin hc1;have k2 := Z1vb hin hd;have k3 := Z1vb hin hc';have k4 := Z1vb hin hd';refine Z16 Z0 hA hS [0, 1, 2, 3, 4, 5, 6, 7, 8, 9, 10] rfl rfl fun Dk hD => ?_;cbv;refine Zq hA hD [.agg [I a, I b, I c, I d], .agg [I a', I b', I c', I d'], I i] [] [] rfl rfl rfl rfl rfl rfl rfl rfl rfl rfl rfl (by decide) trivial (Z24r a b c d a' b' c' d' i hin h _ fun x y hx hy => ⟨by cbv, Zx Z0 hA hD ?_⟩);have hxy : -100000000000 <= x /\ x <= 100000000000 /\ -100000000000 <= y /\ y <= 100000000000 := by omega
  have hab : -1000000000000 <= a' /\ a' <= 1000000000000 /\ -1000000000000 <= b' /\ b' <= 1000000000000 := by omega
  cbv;refine Zq hA hD [.agg [I a', I b'], .agg [I x, I y]] [] [] rfl rfl rfl rfl rfl rfl rfl rfl rfl rfl rfl (by decide) trivial (Z278 a' b' x y hab (by omega) _ fun u v hu hv => ⟨by cbv, Zx Z0 hA hD ?_⟩);cbv
  replace hi : i = (k : Int) := hi
  subst hA;refine ⟨by simp [ar, hes], by simp [ar], by simp [ar]; omega, Zbu (n := i + 1) (by omega), (i + 1, k + 1, es ++ [.agg [I u, I v]]), [0, 1, 2, 5], ⟨by simp; omega, by simp; omega, ?_⟩, by simp; omega, ?_⟩
  ·simp only [hes];rw [List.range_succ, List.map_append];simp [btD, hu, hv, hx, hy, hi]
  ·exact ⟨by decide, fun i hi => absurd hi (by simp), ⟨rfl, rfl, rfl, rfl, trivial⟩, ⟨rfl, rfl, rfl, rfl, rfl, rfl, trivial⟩, rfl, rfl⟩
 ·rename_i hc
  cbv
  replace hi : i = (k : Int) := hi
  have hlt : k = l3 + 1 := by subst hA; replace hc : decide (i < (l3 : Int) + 1) = false := hc; have := of_decide_eq_false hc; omega
  subst hlt;rw [hes];exact Z2 (H' := [.els 2 ((List.range (l3 + 1)).map (btD a b c d a' b' c' d'))]) (d' := .o 0 2 (l3 + 1)) [3] (by simp) (fun i hi => absurd hi (by simp)) ⟨Zra rfl rfl, trivial⟩ rfl (Z1 hq)
end Go.Proofs.YtggilmnhgjofiaaGreat

namespace Go.Proofs.YtggilmnhgjofiaaGreat
open Go Go.Abs Go.Proofs
theorem Z25v (l0 l1 l2 : Int) (l3 : Nat) (a b c d a' b' c' d' : Int) (hn : l3 <= 100) (h : Z1tm a /\ Z1tm b /\ Z1tm c /\ Z1tm d /\ Z1tm c' /\ Z1tm d') (h' : Z1tm a' /\ Z1tm b') (Q) (hq : ∀ R, R = (List.range (l3 + 1)).map (btD a b c d a' b' c' d') -> Q (RA.ret (.o 0 2 (l3 + 1))) [.els 2 R]) :
  CallA Tryz.prog 101 [.agg [I l0, I l1, I l2, I l3], .agg [I a, I b, I c, I d], .agg [I a', I b', I c', I d']] [] Q := Z279 l0 l1 l2 l3 a b c d a' b' c' d' hn h h' Q (hq _ rfl)
set_option maxRecDepth 40000 in
set_option maxHeartbeats 4000000 in
theorem lOff (l0 l1 l2 due tol : Int) (l3 : Nat) (a b c d a' b' c' d' : Int) (hn : l3 <= 100) (h : Z1tm a /\ Z1tm b /\ Z1tm c /\ Z1tm d /\ Z1tm c' /\ Z1tm d') (h' : Z1tm a' /\ Z1tm b') (hdue : Z1tm due) (htol : 0 <= tol)
  (hin : ∀ n : Nat, n <= l3 -> due - (a' + (n * c' - (b + n * d))) <= tol /\ (b' + (n * d' - (a + n * c))) - due <= tol) (Q) (hq : ∀ x, x <= tol -> Q (RA.ret (I x)) []) :
  CallA Tryz.prog 78 [.agg [I l0, I l1, I l2, I l3], I due, .agg [I a, I b, I c, I d], .agg [I a', I b', I c', I d']] [] Q := by
 obtain ⟨A, hA⟩ : ∃ A, A = ar := ⟨_, rfl⟩;refine Z5 Z0 hA Tryz.func78 rfl rfl rfl rfl rfl fun S hS => ?_;cbv;refine Z4 hS [.agg [I l0, I l1, I l2, I l3], .agg [I a, I b, I c, I d], .agg [I a', I b', I c', I d']] [] [] rfl rfl rfl rfl rfl rfl rfl rfl (by decide) trivial (Z25v l0 l1 l2 l3 a b c d a' b' c' d' hn h h' _ fun R hR => Z3 Z0 hA hS ?_);have hRl : R.length = l3 + 1 := by rw [hR]; simp
 have hRn : ∀ k : Nat, k <= l3 -> ∃ u v : Int, R[k]? = some (.agg [I u, I v]) /\ due - u <= tol /\ v - due <= tol /\ -1000000000000 <= u /\ u <= 1000000000000 /\ -1000000000000 <= v /\ v <= 1000000000000 := fun k hk => by
  obtain ⟨h1, h2⟩ := hin k hk;have hk' : k < l3 + 1 := by omega
  generalize hu : a' + ((k : Int) * c' - (b + k * d)) = u at h1
  generalize hv : b' + ((k : Int) * d' - (a + k * c)) = v at h2
  refine ⟨u, v, by rw [hR]; simp [hk', btD, hu, hv], h1, h2, ?_⟩;obtain ⟨ha, hb, hc1, hd, hc', hd'⟩ := id h;simp only [Z1tm] at ha hb hc1 hd hc' hd' h';have hin : 0 <= (k : Int) /\ (k : Int) <= 1000 := by omega
  have k1 := Z1vb hin hc1;have k2 := Z1vb hin hd;have k3 := Z1vb hin hc';have k4 := Z1vb hin hd';omega
 clear hin hR;obtain ⟨N, hN⟩ : ∃ N : Nat, N = l3 + 1 := ⟨_, rfl⟩;rw [<- hN] at hRl ⊢;cbv;refine Zb hS ?_;refine Zgw (α := Int × Nat × Int) (fun x => { env := [(1, I due), (4, .b 0 0), (6, .b 1 0), (7, .b 2 0), (9, I x.2.2), (15, .o 3 2 N), (16, I (A.oi N)), (17, I x.1)], H := [.box (.agg [I l0, I l1, I l2, I l3]), .box (.agg [I a, I b, I c, I d]), .box (.agg [I a', I b', I c', I d']), .els 2 R], nt := 33, dfs := [] }) (fun x => N - x.2.1) (fun x => x.2.1 <= N /\ x.1 = x.2.1 /\ x.2.2 <= tol) (0, 0, 0) ⟨Nat.zero_le _, rfl, htol⟩ [0, 1, 2, 3] ?_ ?_
 ·exact ⟨by decide, fun i hi => absurd hi (by simp), ⟨rfl, rfl, rfl, rfl, trivial⟩, ⟨rfl, rfl, rfl, rfl, rfl, rfl, rfl, rfl, trivial⟩, rfl, rfl⟩
 rintro ⟨i, k, x⟩ ⟨hk, hi, hx⟩
 replace hk : k <= N := hk
 replace hi : i = (k : Int) := hi
 replace hx : x <= tol := hx
 refine Zi Z0 hA hS ?_;cbv
 split
 ·rename_i hc
  cbv
  replace hi : i = (k : Int) := hi
  have hlt : k < N := by subst hA; replace hc : decide (i < (N : Int)) = true := hc; have := of_decide_eq_true hc; omega
  obtain ⟨u, v, e1, e2, e3, e4, e5, e6, e7⟩ := hRn k (by omega);simp only [Z1tm] at hdue;refine ⟨by subst hA; show 0 <= i /\ i < (N : Int); omega, Need.mk ⟨_, by subst hA; subst hi; exact e1, ?_⟩⟩;cbv
  replace hi : i = (k : Int) := hi
  replace e2 : due - u <= tol := e2
  replace e3 : v - due <= tol := e3
  refine ⟨by subst hA; exact Zbu (n := due - u) (by omega), by subst hA; exact Zbu (n := v - due) (by omega), by subst hA; exact Zbu (n := i + 1) (by omega), (A.add i 1, k + 1, A.max (A.max x (A.sub due u)) (A.sub v due)), [0, 1, 2, 3], ⟨by simp; omega, by subst hA; simp [ar]; omega, ?_⟩, by simp; omega, ?_⟩
  ·subst hA;show (if v - due > (if due - u > x then due - u else x) then v - due else (if due - u > x then due - u else x)) <= tol
   split <;> split <;> omega
  ·exact ⟨by decide, fun i hi => absurd hi (by simp), ⟨rfl, rfl, rfl, rfl, trivial⟩, ⟨rfl, rfl, rfl, rfl, rfl, rfl, rfl, rfl, trivial⟩, rfl, rfl⟩
 ·rename_i hc
  cbv;exact Z2 (H' := []) (d' := I x) [] (by simp) (fun i hi => absurd hi (by simp)) trivial rfl (Z1 (hq x hx))
end Go.Proofs.YtggilmnhgjofiaaGreat

namespace Go.Proofs.YtggilmnhgjofiaaGreat
open Go Go.Abs Go.Proofs
set_option maxRecDepth 40000 in
set_option maxHeartbeats 4000000 in
theorem Z27a (l0 l1 l2 due x y : Int) (l3 : Nat) (hl3 : l3 <= 100) (h : Z1tm l2 /\ Z1tm due /\ Z1tm x /\ Z1tm y) (Q) (hq : ∀ b, Q (RA.ret (.v (.bool b))) []) :
  CallA Tryz.prog 79 [.agg [I l0, I l1, I l2, I l3], I due, I x, I y] [] Q := by
 obtain ⟨A, hA⟩ : ∃ A, A = ar := ⟨_, rfl⟩;refine Z5 Z0 hA Tryz.func79 rfl rfl rfl rfl rfl fun S hS => ?_;cbv;refine ⟨by subst hA; exact Zbu (n := (l3 : Int) + 1) (by omega), ?_⟩;refine Zb hS ?_;refine Zgw (α := Int × Nat) (fun p => { env := [(1, I due), (2, I x), (3, I y), (4, .b 0 0), (12, I (A.add l3 1)), (13, I p.1)], H := [.box (.agg [I l0, I l1, I l2, I l3])], nt := 31, dfs := [] }) (fun x => l3 + 1 - x.2) (fun x => x.2 <= l3 + 1 /\ x.1 = x.2) (0, 0) ⟨Nat.zero_le _, rfl⟩ [0] ?_ ?_
 ·exact ⟨by decide, fun i hi => absurd hi (by simp), ⟨rfl, trivial⟩, ⟨rfl, rfl, rfl, rfl, rfl, rfl, trivial⟩, rfl, rfl⟩
 rintro ⟨i, k⟩ ⟨hk, hi⟩
 replace hk : k <= l3 + 1 := hk
 replace hi : i = (k : Int) := hi
 obtain ⟨⟨a1, a2⟩, ⟨a3, a4⟩, ⟨a5, a6⟩, a7, a8⟩ := h;refine Zi Z0 hA hS ?_;cbv
 split
 ·rename_i hc
  replace hi : i = (k : Int) := hi
  have hlt : k < l3 + 1 := by subst hA; replace hc : decide (i < (l3 : Int) + 1) = true := hc; have := of_decide_eq_true hc; omega
  obtain ⟨z, hz⟩ : ∃ z, z = i * y := ⟨_, rfl⟩;have hzb := Z1vb (n := i) (a := y) (by omega) ⟨a7, a8⟩;cbv
  replace hi : i = (k : Int) := hi
  refine ⟨by subst hA; exact Zbu (n := i * y) (by omega), by subst hA; exact Zbu (n := x + i * y) (by omega), by subst hA; exact Zbu (n := x + i * y - due) (by omega), by subst hA; exact Zbu (n := -l2) (by omega), ?_⟩;refine Z4 hS [I (A.sub (A.add x (A.mul i y)) due), I (A.neg l2), I l2] [] [] rfl rfl rfl rfl rfl rfl rfl rfl (by decide) trivial (Z1w3 _ _ _ _ ?_);refine Z3 Z0 hA hS ?_
  generalize (decide (A.neg l2 <= A.sub (A.add x (A.mul i y)) due) && decide (A.sub (A.add x (A.mul i y)) due <= l2)) = bb
  cbv
  replace hi : i = (k : Int) := hi
  refine bm (fun c => ?_) (fun c => ?_)
  ·cbv;exact Z2 (H' := []) (d' := .v (.bool false)) [] (by simp) (fun i hi => absurd hi (by simp)) trivial rfl (Z1 (hq _))
  ·cbv
   replace hi : i = (k : Int) := hi
   refine ⟨by subst hA; exact Zbu (n := i + 1) (by omega), (A.add i 1, k + 1), [0], ⟨by simp; omega, by subst hA; simp [ar]; omega⟩, by simp; omega, ?_⟩;exact ⟨by decide, fun i hi => absurd hi (by simp), ⟨rfl, trivial⟩, ⟨rfl, rfl, rfl, rfl, rfl, rfl, trivial⟩, rfl, rfl⟩
 ·rename_i hc
  cbv;exact Z2 (H' := []) (d' := .v (.bool true)) [] (by simp) (fun i hi => absurd hi (by simp)) trivial rfl (Z1 (hq _))
theorem lAll (a b c d : Int) (Q) (hq : Q (RA.ret (.fn 100 [.cb (.agg [I a, I b, I c, I d]) 0])) []) : CallA Tryz.prog 77 [.agg [I a, I b, I c, I d]] [] Q := by
 obtain ⟨A, hA⟩ : ∃ A, A = ar := ⟨_, rfl⟩;refine Z5 Z0 hA Tryz.func77 rfl rfl rfl rfl rfl fun S hS => ?_;cbv;refine Z1w [0] ?_;cbv;exact Z2 [] (by decide) Z9 (H' := []) (d' := .fn 100 [.cb (.agg [I a, I b, I c, I d]) 0]) trivial rfl (Z1 hq)
end Go.Proofs.YtggilmnhgjofiaaGreat

/- Part DrnA of the proofs about the benches of the accordion maker: see the last text of the claim for what is proved. -/
import Derived.Test.YtegjabljeepbdaaGreatDoorRunO
import Derived.Test.YtegjabljeepbdaaGreatDoorRunR
import Derived.Test.YtegjabljeepbdaaGreatDoorRunS
import Derived.Test.YtegjabljeepbdaaGreatDoorRunW
set_option linter.unusedVariables false
set_option linter.unusedSimpArgs false
set_option linter.unnecessarySimpa false
set_option linter.constructorNameAsVariable false

namespace Go.Proofs.YtegjabljeepbdaaGreatDoor
open Go Go.Abs Go.Proofs Go.Batch
open Bn (Sl Sh Tk Wk Z14v Z14z runS Z151 ShopOk PlanOk PlanLe Val mo0 Z15w Z1bg)
def shA : Sh := ⟨1, [⟨3, 0, [⟨0, 1, 1⟩]⟩, ⟨0, 0, [⟨0, 1, 1⟩]⟩]⟩
def jnD : Jn := ⟨2, [true], [mIn 0 1 1, mIn 0 1 1]⟩
theorem Z1bu : ShopOk shA := ⟨by decide, by decide, ⟨by decide, by decide⟩⟩
theorem Z1bv : PlanOk shA [1, 0] := ⟨by decide, by decide, by decide⟩
theorem Z1bw : (Z1bg shA).2 = ([1, 0], 4) := by decide +kernel
theorem Z1bj : ∀ x ∈ runS shA mo0 [1, 0], (0 <= x.b /\ x.b < jnD.first.length /\ 0 <= x.t /\ x.t < jnD.ins) /\ 0 <= x.bh /\ x.bh <= 1000 := by decide +kernel
theorem Z1bx : (Z151 (runS shA mo0 [1, 0])).map outM = [⟨2, 0, 1, 1, 1⟩, ⟨2, 0, 0, 1, 1⟩] := by decide +kernel
def jnD2 : Jn := ⟨2, [true], [mIn 0 1 1, mIn 0 1 1, ⟨2, 0, 1, 1, 1⟩, ⟨2, 0, 0, 1, 1⟩]⟩
theorem Z1cb : JOk jnD := Z2r (by decide +kernel)
theorem Z1c2 : JOk jnD2 := Z2r (by decide +kernel)
theorem Z1c3 : Zc jnD2 = true := by decide +kernel
theorem Z1be : holdsJ jnD2 = [[2, 1], [1, 2]] := by decide +kernel
set_option maxRecDepth 40000 in
set_option maxHeartbeats 8000000 in
theorem Z1b9 (Q) (hq : Q (RA.ret (.v (.bool true))) []) : CallA Tryz.prog 21 [] [] Q := by
 obtain ⟨TL, hTL⟩ : ∃ TL, TL = shA.tasks.map Z14z := ⟨_, rfl⟩;have hTL' : TL = [.agg [I 3, I 0, .sl 3 [.agg [I 0, I 1, I 1]]], .agg [I 0, I 0, .sl 3 [.agg [I 0, I 1, I 1]]]] := hTL;have cB := fun Q h => Bn.bBest shA Z1bu TL hTL Q h;have md : MdJ jnD2 2 2 1 4 [Zv true] (jnD2.moves.map mvD) := ⟨Z1c2, Z1c3, rfl, ⟨rfl⟩, rfl, rfl, rfl, rfl⟩;have e2 : jnD2.moves.map mvD = (jnD.moves ++ [(⟨2, 0, 1, 1, 1⟩ : Mv), ⟨2, 0, 0, 1, 1⟩]).map mvD := rfl;rw [e2] at md;obtain ⟨ML, hML⟩ : ∃ ML, ML = jnD.moves.map mvD := ⟨_, rfl⟩;have cW := fun PL (hPL : PL = Z15w [1, 0]) Q h => Z19g jnD Z1cb 2 rfl [Zv true] ML rfl hML shA Z1bu 1 rfl [1, 0] Z1bv TL PL hTL hPL (fun x hx => (Z1bj x hx).1) (fun x hx => (Z1bj x hx).2) (by decide) Q h;rw [Z1bx] at cW;obtain ⟨MZ, hMZ⟩ : ∃ MZ, MZ = (jnD.moves ++ [(⟨2, 0, 1, 1, 1⟩ : Mv), ⟨2, 0, 0, 1, 1⟩]).map mvD := ⟨_, rfl⟩;rw [<- hMZ] at cW md;have cH := fun Q h => md.holds Q h;rw [Z1be] at cH;refine Z38 (A := ar) Z0 rfl [2, 3, 4, 7] Tryz.func21 rfl rfl rfl rfl rfl fun S hS => ?_;cbv;refine Z4j (A := ar) Z0 rfl hS [0, 1, 2, 3, 4, 5, 6, 7] [8, 9, 10, 11] rfl ?_;cbv;refine Z26 hS (Z1a rfl [1, 2] ?_);cbv;refine Z7 (Zii hS (Z3 (A := ar) Z0 rfl hS ?_));cbv;refine Z4j (A := ar) Z0 rfl hS [0, 1, 2, 3, 4, 5, 6, 7] [8] rfl ?_;cbv;refine Z26 hS (Z1a rfl [3, 5, 6] ?_);cbv;refine Z7 (Zii hS (Z3 (A := ar) Z0 rfl hS ?_));cbv;refine Z3h hS (Z1a rfl [4, 7] ?_);cbv;refine Z60 (a := { env := [(2, .cb (.agg [I 1, .sl 3 TL]) 0), (3, .cb (.agg [I 2, .sl 1 [Zv true], .sl 5 ML]) 0)], H := [], nt := 73, dfs := [] }) [] ⟨by decide, Z9, trivial, ⟨by rw [hTL']; rfl, by rw [hML]; rfl, trivial⟩, rfl, rfl⟩ ?_;refine Z7 (Zb hS (Z2w (A := ar) Z0 rfl hS [7] ?_));cbv;refine Z4 hS [.agg [I 1, .sl 3 TL]] [] [] rfl rfl rfl rfl rfl rfl rfl rfl (by decide) trivial (cB _ fun PL n hPL hn => ?_);rw [Z1bw] at hPL hn;refine Z3 (A := ar) Z0 rfl hS ?_;cbv;refine Z4 hS [.agg [I 2, .sl 1 [Zv true], .sl 5 ML], .agg [I 1, .sl 3 TL], .sl 1 PL] [] [] rfl rfl rfl rfl rfl rfl rfl rfl (by decide) trivial (cW PL hPL _ fun MX hMX => ?_);rw [hMX];refine Z3 (A := ar) Z0 rfl hS ?_;cbv;refine Z4 hS [.agg [I 2, .sl 1 [Zv true], .sl 5 MZ]] [] [] rfl rfl rfl rfl rfl rfl rfl rfl (by decide) trivial (cH _ fun HL hHL => ?_);have hn : n = 4 := hn;subst hn;refine Z3 (A := ar) Z0 rfl hS ?_;cbv;refine Z4j (A := ar) Z0 rfl hS [0, 1, 2, 3, 4, 5, 6, 7, 8, 9, 10, 11, 12, 13, 14, 15, 16] [17, 18, 19, 20, 21, 22, 23, 24, 25, 26] rfl ?_;cbv;refine Z26 hS (Z1a rfl [1] ?_);cbv;refine Z7 (Zii hS (Z3 (A := ar) Z0 rfl hS ?_));cbv;refine Zg hS (b := true) rfl rfl rfl rfl rfl rfl rfl rfl (fun _ => ⟨_, _, [.sl 1 PL, .sl 1 [I 1, I 0]], [], [], rfl, rfl, rfl, by decide, trivial, Zaq [1, 0] [1, 0] PL _ hPL rfl (by decide) true rfl _ ?_⟩) (fun h => absurd rfl h);refine Zke (A := ar) Z0 rfl hS [18, 19, 20, 21, 22] [23, 24, 25, 26] ?_;cbv;refine Z26 hS (Z1a rfl [2, 3] ?_);cbv;refine Z7 (Zii hS (Z3 (A := ar) Z0 rfl hS ?_));cbv;refine Z26 hS (Z1a rfl [4] ?_);cbv;refine Z7 ?_;refine Zg hS (b := true) rfl rfl rfl rfl rfl rfl rfl rfl (fun _ => ⟨_, _, [.sl 1 HL, .sl 1 [.sl 1 [I 2, I 1], .sl 1 [I 1, I 2]]], [], [], rfl, rfl, rfl, by decide, trivial, Znb [[2, 1], [1, 2]] [[2, 1], [1, 2]] HL _ hHL rfl (lim (n := 2) (by omega)) (fun l hl => by simp at hl; rcases hl with rfl | rfl <;> exact lim (n := 2) (by omega)) true rfl _ ?_⟩) (fun h => absurd rfl h);refine Z3 (A := ar) Z0 rfl hS ?_;cbv;exact Z2 [] (by decide) Z9 (H' := []) (d' := .v (.bool true)) trivial rfl (Z1 hq)
end Go.Proofs.YtegjabljeepbdaaGreatDoor

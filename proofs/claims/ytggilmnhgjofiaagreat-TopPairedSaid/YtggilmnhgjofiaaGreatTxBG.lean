/- Part TxBG of the proofs about the benches of the accordion maker: see the last text of the claim for what is proved. -/
import Derived.Test.YtggilmnhgjofiaaGreatTxBF
set_option linter.unusedVariables false
set_option linter.unusedSimpArgs false
set_option linter.unnecessarySimpa false
set_option linter.constructorNameAsVariable false

namespace Go.Proofs.YtggilmnhgjofiaaGreat
open Go Go.Abs Go.Proofs
def Z1wf (J : JbP) (tp rt : Nat) : Bool := Z1wp (J.t0, J.t1) (J.x0, J.x1) (J.r0, J.r1) (J.y0, J.y1) J.least tp rt
def tipJ (J : JbP) (p : R2) : R2 := Z1wn p (J.u0, J.u1)
def Z20a (J : JbP) (p : R2) : R2 := Z1vf p (J.d0, J.d1)
def Z1u4 (J : JbP) : Nat -> R2 -> Nat -> Nat -> Bool
 | 0, p, _, _ => hasR (J.w0, J.w1) p
 | l + 1, p, tp, rt => hasR (J.w0, J.w1) p || ((Z1wf J (tp + 1) rt && Z1vk (fun q => Z1u4 J l q (tp + 1) rt) (tipJ J p) J.me) || (Z1wf J tp (rt + 1) && Z1vk (fun q => Z1u4 J l q tp (rt + 1)) (Z20a J p) J.me))
def Z1v4 (J : JbP) (l : Nat) (p : R2) (tp rt : Nat) : Bool := Z1vk (fun q => Z1u4 J l q tp rt) p J.me
def Z1vu (J : JbP) : Nat -> R2 -> Nat -> Nat -> Int
 | 0, _, _, _ => 0
 | l + 1, p, tp, rt => if (Z1wf J (tp + 1) rt && Z1v4 J l (tipJ J p) (tp + 1) rt) = true then 1 else if (Z1wf J tp (rt + 1) && Z1v4 J l (Z20a J p) tp (rt + 1)) = true then 2 else 0
theorem Z28c : ∀ h x y : Bool, (h || (x || y)) = (h || decide ((if x = true then (1 : Int) else if y = true then 2 else 0) > 0)) := by decide
theorem Z1y6 (J : JbP) (l : Nat) (p : R2) (tp rt : Nat) : Z1u4 J l p tp rt = (hasR (J.w0, J.w1) p || decide (Z1vu J l p tp rt > 0)) := by
 cases l with
 | zero => simp [Z1u4, Z1vu]
 | succ l => exact Z28c _ _ _
structure MetOk (J : JbP) (ents : List (List Int × D)) : Prop where
 out : ∀ e ∈ ents, ∃ (a b : Int) (tp rt l : Nat), e.1 = [a, b, (tp : Int), (rt : Int), (l : Int)] /\ e.2 = .v (.bool (Z1u4 J l (a, b) tp rt))
theorem MetOk.nil {J : JbP} : MetOk J [] := ⟨fun e h => by simp at h⟩
theorem MetOk.put {J : JbP} {ents : List (List Int × D)} (h : MetOk J ents) {a b tpI rtI lfI : Int} {tp rt l : Nat} (h1 : IsI tpI tp) (h2 : IsI rtI rt) (h3 : IsI lfI l) {v : Bool} (hv : v = Z1u4 J l (a, b) tp rt) : MetOk J (ar.mput ents [a, b, tpI, rtI, lfI] (D.v (.bool v))) := ⟨fun k hk => by
 have hnew : ∃ (a' b' : Int) (tp' rt' l' : Nat), ([a, b, tpI, rtI, lfI] : List Int) = [a', b', (tp' : Int), (rt' : Int), (l' : Int)] /\ D.v (.bool v) = D.v (.bool (Z1u4 J l' (a', b') tp' rt')) := ⟨a, b, tp, rt, l, by rw [h1.eq, h2.eq, h3.eq], by rw [hv]⟩
 have hk : k ∈ (match ents.findIdx? (·.1 == [a, b, tpI, rtI, lfI]) with | some i => ents.set i ([a, b, tpI, rtI, lfI], D.v (.bool v)) | none => ents ++ [([a, b, tpI, rtI, lfI], D.v (.bool v))]) := hk
 split at hk
 ·rcases List.mem_or_eq_of_mem_set hk with hk | rfl
  ·exact h.out k hk
  ·exact hnew
 ·rcases List.mem_append.1 hk with hk | hk
  ·exact h.out k hk
  ·simp at hk; subst hk; exact hnew⟩
theorem MetOk.get {J : JbP} {ents : List (List Int × D)} (h : MetOk J ents) {a b tpI rtI lfI : Int} {tp rt l : Nat} (h1 : IsI tpI tp) (h2 : IsI rtI rt) (h3 : IsI lfI l) (z : D) :
  (ar.mhas ents [a, b, tpI, rtI, lfI] = true /\ ar.mget ents [a, b, tpI, rtI, lfI] z = some (D.v (.bool (Z1u4 J l (a, b) tp rt)))) ∨ (ar.mhas ents [a, b, tpI, rtI, lfI] = false /\ ar.mget ents [a, b, tpI, rtI, lfI] z = some z) := by
 show ((ents.find? (·.1 == [a, b, tpI, rtI, lfI])).isSome = true /\ some (((ents.find? (·.1 == [a, b, tpI, rtI, lfI])).map (·.2)).getD z) = _) ∨ ((ents.find? (·.1 == [a, b, tpI, rtI, lfI])).isSome = false /\ some (((ents.find? (·.1 == [a, b, tpI, rtI, lfI])).map (·.2)).getD z) = _)
 cases hf : ents.find? (·.1 == [a, b, tpI, rtI, lfI]) with
 | none => exact .inr ⟨rfl, rfl⟩
 | some e =>
  left
  refine ⟨rfl, ?_⟩;have hm := List.mem_of_find?_eq_some hf;have he := List.find?_some hf;have he : e.1 = [a, b, tpI, rtI, lfI] := eq_of_beq he;obtain ⟨a', b', tp', rt', l', g1, g2⟩ := h.out e hm;rw [g1, h1.eq, h2.eq, h3.eq] at he;simp only [List.cons.injEq, and_true, Int.natCast_inj] at he;obtain ⟨rfl, rfl, rfl, rfl, rfl⟩ := he;show some e.2 = _;rw [g2]
structure OkG (J : JbP) : Prop where
 t : -1000 <= J.t0 /\ J.t0 <= 1000 /\ -1000 <= J.t1 /\ J.t1 <= 1000
 r : -1000 <= J.r0 /\ J.r0 <= 1000 /\ -1000 <= J.r1 /\ J.r1 <= 1000
 x : -1000 <= J.x0 /\ J.x0 <= 1000 /\ -1000 <= J.x1 /\ J.x1 <= 1000
 y : -1000 <= J.y0 /\ J.y0 <= 1000 /\ -1000 <= J.y1 /\ J.y1 <= 1000
 u : -100 <= J.u0 /\ J.u0 <= 100 /\ -100 <= J.u1 /\ J.u1 <= 100
 d : -100 <= J.d0 /\ J.d0 <= 100 /\ -100 <= J.d1 /\ J.d1 <= 100
 me : 0 <= J.me /\ J.me <= 100
def Z234 (J : JbP) (l : Nat) : Prop := ∀ (tp rt : Nat) (tpI rtI lfI : Int), IsI tpI tp -> IsI rtI rt -> IsI lfI l -> tp + l <= 10 -> rt + l <= 10 -> ∀ x y, PB l (x, y) -> ∀ ents, MetOk J ents -> ∀ Q : RA -> List Blk -> Prop, (∀ ents' v, v = Z1u4 J l (x, y) tp rt -> MetOk J ents' -> Q (RA.ret (.v (.bool v))) (gH J ents')) -> CallA Tryz.prog 72 [.agg [I x, I y, I tpI, I rtI, I lfI], .b 0 0, .b 1 0] (gH J ents) Q
def gAny (J : JbP) : D := .agg [I J.p0, I J.p1, I J.t0, I J.t1, I J.r0, I J.r1, I J.u0, I J.u1, I J.d0, I J.d1, I J.x0, I J.x1, I J.y0, I J.y1, I J.least, .sl 2 J.SL, I J.wi, I J.me, I J.w0, I J.w1, .any]
theorem Z235 (J : JbP) (i k : Nat) : WkD (gDat J i k) (gAny J) := WkD.agg ⟨WkD.rfl, WkD.rfl, WkD.rfl, WkD.rfl, WkD.rfl, WkD.rfl, WkD.rfl, WkD.rfl, WkD.rfl, WkD.rfl, WkD.rfl, WkD.rfl, WkD.rfl, WkD.rfl, WkD.rfl, WkD.rfl, WkD.rfl, WkD.rfl, WkD.rfl, WkD.rfl, WkD.any, trivial⟩
theorem Z27b {l : Nat} {a b : Int} (h : PB l (a, b)) (hl : l <= 10) : MidV a /\ MidV b := by simp only [PB, MidV] at h ⊢; omega
theorem Z27c {J : JbP} (h : OkG J) {l : Nat} {a b a' b' : Int} (hp : PB (l + 1) (a, b)) (e : (a', b') = Z1wn (a, b) (J.u0, J.u1)) : PB l (a', b') := by
 have := h.u;simp only [PB, Z1wn, Prod.mk.injEq] at hp e ⊢;omega
theorem Z260 {J : JbP} (h : OkG J) {l : Nat} {a b a' b' : Int} (hp : PB (l + 1) (a, b)) (e : (a', b') = Z1vf (a, b) (J.d0, J.d1)) : PB l (a', b') := by
 have := h.d;simp only [PB, Z1vf, Prod.mk.injEq] at hp e ⊢;omega
set_option maxRecDepth 40000 in
set_option maxHeartbeats 4000000 in
theorem Z21l (J : JbP) (a b tpI rtI lfI : Int) (hl : IsI lfI 0) (ents) (he : MetOk J ents) (Q) (hq : Q (RA.ret (I 0)) (gH J ents)) :
  CallA Tryz.prog 44 [gDat J 0 1, .agg [I a, I b, I tpI, I rtI, I lfI]] (gH J ents) Q := by
 obtain ⟨A, hA⟩ : ∃ A, A = ar := ⟨_, rfl⟩;refine Z5 Z0 hA Tryz.func44 rfl rfl rfl rfl rfl fun S hS => ?_;cbv;refine Z1xb Z0 hA hS 0 fun L hL => ?_;cbv;refine bmT (by subst hA; rfl) ?_;cbv;refine bmF (by subst hA; rw [hl.eq]; rfl) ?_;cbv;exact Z2 [0, 1, 2] (by decide) Zeb (H' := gH J ents) (d' := I 0) ⟨rfl, rfl, rfl, trivial⟩ rfl (Z1 hq)
set_option maxRecDepth 40000 in
set_option maxHeartbeats 16000000 in
theorem Z21m (J : JbP) (hOk : OkG J) (l : Nat) (hst : Z234 J l) (a b : Int) (tp rt : Nat) (tpI rtI lfI : Int) (h1 : IsI tpI tp) (h2 : IsI rtI rt) (h3 : IsI lfI (l + 1)) (ht : tp + l + 1 <= 10) (hr : rt + l + 1 <= 10) (hp : PB (l + 1) (a, b)) (ents) (he : MetOk J ents) (Q)
  (hq : ∀ ents' v, v = Z1vu J (l + 1) (a, b) tp rt -> MetOk J ents' -> Q (RA.ret (I v)) (gH J ents')) :
  CallA Tryz.prog 44 [gDat J 0 1, .agg [I a, I b, I tpI, I rtI, I lfI]] (gH J ents) Q := by
 obtain ⟨A, hA⟩ : ∃ A, A = ar := ⟨_, rfl⟩;have hab := Z27b hp (by omega);have huu : -1000 <= J.u0 /\ J.u0 <= 1000 /\ -1000 <= J.u1 /\ J.u1 <= 1000 := by have := hOk.u; omega
 have hdd : -1000 <= J.d0 /\ J.d0 <= 1000 /\ -1000 <= J.d1 /\ J.d1 <= 1000 := by have := hOk.d; omega
 obtain ⟨sv, hsv⟩ : ∃ sv, sv = Z1vu J (l + 1) (a, b) tp rt := ⟨_, rfl⟩;rw [<- hsv] at hq;obtain ⟨s2, hs2⟩ : ∃ s2 : Int, s2 = if (Z1wf J tp (rt + 1) && Z1v4 J l (Z20a J (a, b)) tp (rt + 1)) = true then 2 else 0 := ⟨_, rfl⟩
 have hv1 : ∀ a' b' bb, (a', b') = Z1wn (a, b) (J.u0, J.u1) -> bb = Z1wp (J.t0, J.t1) (J.x0, J.x1) (J.r0, J.r1) (J.y0, J.y1) J.least (tp + 1) rt -> (bb = false -> sv = s2) /\ (bb = true -> ∀ v, v = Z1vk (fun q => Z1u4 J l q (tp + 1) rt) (a', b') J.me -> (v = false -> sv = s2) /\ (v = true -> sv = 1)) := fun a' b' bb e1 e2 => by
  have e3 : bb = Z1wf J (tp + 1) rt := e2;have e4 : (a', b') = tipJ J (a, b) := e1;rw [hsv, Z1vu, <- hs2];refine ⟨fun e => by rw [<- e3, e]; simp, fun e v ev => ⟨fun e5 => ?_, fun e5 => ?_⟩⟩
  ·rw [if_neg]; rw [Z1v4, <- e4, <- ev, e5]; simp
  ·rw [if_pos]; rw [Z1v4, <- e4, <- ev, e5, <- e3, e]; rfl
 have hv2 : ∀ a' b' bb, (a', b') = Z1vf (a, b) (J.d0, J.d1) -> bb = Z1wp (J.t0, J.t1) (J.x0, J.x1) (J.r0, J.r1) (J.y0, J.y1) J.least tp (rt + 1) -> (bb = false -> s2 = 0) /\ (bb = true -> ∀ v, v = Z1vk (fun q => Z1u4 J l q tp (rt + 1)) (a', b') J.me -> (v = false -> s2 = 0) /\ (v = true -> s2 = 2)) := fun a' b' bb e1 e2 => by
  have e3 : bb = Z1wf J tp (rt + 1) := e2;have e4 : (a', b') = Z20a J (a, b) := e1;rw [hs2];refine ⟨fun e => by rw [<- e3, e]; simp, fun e v ev => ⟨fun e5 => ?_, fun e5 => ?_⟩⟩
  ·rw [if_neg]; rw [Z1v4, <- e4, <- ev, e5]; simp
  ·rw [if_pos]; rw [Z1v4, <- e4, <- ev, e5, <- e3, e]; rfl
 clear hs2;have hgt : A.cmp .gtr lfI 0 = true := by subst hA; have := h3.eq; show decide (0 < lfI) = true; exact decide_eq_true (by omega)
 refine Z5 Z0 hA Tryz.func44 rfl rfl rfl rfl rfl fun S hS => ?_;cbv;refine Zb hS ?_;refine Za (α := Int × Nat × List (List Int × D)) (fun q => { env := [(2, .b 3 0), (3, .b 4 0), (5, I q.1)], H := gH J q.2.2 ++ [.box (gDat J 0 1), .box (.agg [I a, I b, I tpI, I rtI, I lfI])], nt := 31, dfs := [] })
  (fun q => 3 - q.2.1) (fun q => IsI q.1 q.2.1 /\ 1 <= q.2.1 /\ q.2.1 <= 3 /\ sv = (if q.2.1 = 1 then sv else if q.2.1 = 2 then s2 else 0) /\ MetOk J q.2.2) (1, 1, ents) ⟨⟨rfl⟩, by show (1 : Nat) <= 1; decide, by show (1 : Nat) <= 3; decide, rfl, he⟩ ?_ ?_
 ·exact Zf [0, 1, 2, 3, 4] ⟨by decide, Zeb, ⟨rfl, rfl, rfl, rfl, rfl, trivial⟩, ⟨rfl, rfl, rfl, trivial⟩, rfl, rfl⟩
 rintro ⟨i, s, en⟩ ⟨v1, v2, v3, v4, hen⟩;dsimp only at v1 v2 v3 v4 hen;obtain rfl | rfl | rfl : s = 1 ∨ s = 2 ∨ s = 3 := by omega
 ·obtain rfl : i = 1 := v1.eq;clear v1 v2 v3 v4;refine Zi Z0 hA hS ?_;cbv;refine bmT (by subst hA; rfl) ?_;cbv;refine bmT hgt ?_;cbv;refine Z26 hS (Zo7 18 (gAny J) rfl (Z235 J 0 1) (Z7 ?_));refine Z4 hS [gAny J, .agg [I a, I b, I tpI, I rtI, I lfI], I 1] [] [] rfl rfl rfl rfl rfl rfl rfl rfl (by decide) trivial (Z25y J.p0 J.p1 J.t0 J.t1 J.r0 J.r1 J.u0 J.u1 J.d0 J.d1 J.x0 J.x1 J.y0 J.y1 J.least J.wi J.me J.SL J.w0 J.w1 a b tp rt l tpI rtI lfI h1 h2 h3 (by omega) (by omega) (by omega) hab hOk.t hOk.r hOk.x hOk.y huu hdd _ fun a' b' tpI' rtI' lfI' bb hmv g1 g2 g3 hbb => Z3 Z0 hA hS ?_);have hpb := Z27c hOk hp hmv;have hsv := hv1 a' b' bb hmv hbb
  cases bb with
  | false =>
   cbv;refine Zg hS (f := 39) (b := false) rfl rfl rfl rfl rfl rfl rfl rfl (fun h => Bool.noConfusion h) (fun _ => Z3 Z0 hA hS ?_);cbv;refine ⟨by subst hA; exact Zbu (n := 1 + 1) (by omega), ?_⟩;refine Z8 (A.add 1 1, 2, en) [0, 1, 2, 3, 4] ⟨by subst hA; exact ⟨rfl⟩, by show (1 : Nat) <= 2; decide, by show (2 : Nat) <= 3; decide, ?_, hen⟩ (by show (3 : Nat) - 2 < 3 - 1; decide) ?_
   ·exact (hsv.1 rfl)
   ·exact ⟨by decide, Zeb, ⟨rfl, rfl, rfl, rfl, rfl, trivial⟩, ⟨rfl, rfl, rfl, trivial⟩, rfl, rfl⟩
  | true =>
   cbv;refine Zg hS (b := true) rfl rfl rfl rfl rfl rfl rfl rfl (fun _ => ⟨[], _, [gDat J 0 1, .agg [I a', I b', I tpI', I rtI', I lfI']], [0, 1, 2], gH J en, rfl, rfl, rfl, by decide, ⟨rfl, rfl, rfl, trivial⟩, Z22e J l tpI' rtI' lfI' (fun q => Z1u4 J l q (tp + 1) (rt)) (MetOk J) (fun x y hxy en' hen' Q hq => hst (tp + 1) (rt) tpI' rtI' lfI' g1 g2 g3 (by omega) (by omega) x y hxy en' hen' Q hq) a' b' hpb hOk.me en hen _ fun en' v hv hen' => Z3 Z0 hA hS ?_⟩) (fun h => absurd rfl h);have hsv2 := hsv.2 rfl v hv
   cases v with
   | false =>
    cbv;refine ⟨by subst hA; exact Zbu (n := 1 + 1) (by omega), ?_⟩;refine Z8 (A.add 1 1, 2, en') [0, 1, 2, 3, 4] ⟨by subst hA; exact ⟨rfl⟩, by show (1 : Nat) <= 2; decide, by show (2 : Nat) <= 3; decide, ?_, hen'⟩ (by show (3 : Nat) - 2 < 3 - 1; decide) ?_
    ·exact (hsv2.1 rfl)
    ·exact ⟨by decide, Zeb, ⟨rfl, rfl, rfl, rfl, rfl, trivial⟩, ⟨rfl, rfl, rfl, trivial⟩, rfl, rfl⟩
   | true =>
    have hqq := hq en' 1 (hsv2.2 rfl).symm hen';cbv;refine Z7 ?_;cbv;exact Z2 [0, 1, 2] (by decide) Zeb (H' := gH J en') (d' := I 1) ⟨rfl, rfl, rfl, trivial⟩ rfl (Z1 hqq)
 ·obtain rfl : i = 2 := v1.eq;have hs2 : sv = s2 := v4;rw [<- hs2] at hv2;clear v1 v2 v3 v4;refine Zi Z0 hA hS ?_;cbv;refine bmT (by subst hA; rfl) ?_;cbv;refine bmT hgt ?_;cbv;refine Z26 hS (Zo7 18 (gAny J) rfl (Z235 J 0 1) (Z7 ?_));refine Z4 hS [gAny J, .agg [I a, I b, I tpI, I rtI, I lfI], I 2] [] [] rfl rfl rfl rfl rfl rfl rfl rfl (by decide) trivial (Z25z J.p0 J.p1 J.t0 J.t1 J.r0 J.r1 J.u0 J.u1 J.d0 J.d1 J.x0 J.x1 J.y0 J.y1 J.least J.wi J.me J.SL J.w0 J.w1 a b tp rt l tpI rtI lfI h1 h2 h3 (by omega) (by omega) (by omega) hab hOk.t hOk.r hOk.x hOk.y huu hdd _ fun a' b' tpI' rtI' lfI' bb hmv g1 g2 g3 hbb => Z3 Z0 hA hS ?_);have hpb := Z260 hOk hp hmv;have hsv := hv2 a' b' bb hmv hbb
  cases bb with
  | false =>
   cbv;refine Zg hS (f := 39) (b := false) rfl rfl rfl rfl rfl rfl rfl rfl (fun h => Bool.noConfusion h) (fun _ => Z3 Z0 hA hS ?_);cbv;refine ⟨by subst hA; exact Zbu (n := 2 + 1) (by omega), ?_⟩;refine Z8 (A.add 2 1, 3, en) [0, 1, 2, 3, 4] ⟨by subst hA; exact ⟨rfl⟩, by show (1 : Nat) <= 3; decide, by show (3 : Nat) <= 3; decide, ?_, hen⟩ (by show (3 : Nat) - 3 < 3 - 2; decide) ?_
   ·exact (hsv.1 rfl)
   ·exact ⟨by decide, Zeb, ⟨rfl, rfl, rfl, rfl, rfl, trivial⟩, ⟨rfl, rfl, rfl, trivial⟩, rfl, rfl⟩
  | true =>
   cbv;refine Zg hS (b := true) rfl rfl rfl rfl rfl rfl rfl rfl (fun _ => ⟨[], _, [gDat J 0 1, .agg [I a', I b', I tpI', I rtI', I lfI']], [0, 1, 2], gH J en, rfl, rfl, rfl, by decide, ⟨rfl, rfl, rfl, trivial⟩, Z22e J l tpI' rtI' lfI' (fun q => Z1u4 J l q (tp) (rt + 1)) (MetOk J) (fun x y hxy en' hen' Q hq => hst (tp) (rt + 1) tpI' rtI' lfI' g1 g2 g3 (by omega) (by omega) x y hxy en' hen' Q hq) a' b' hpb hOk.me en hen _ fun en' v hv hen' => Z3 Z0 hA hS ?_⟩) (fun h => absurd rfl h);have hsv2 := hsv.2 rfl v hv
   cases v with
   | false =>
    cbv;refine ⟨by subst hA; exact Zbu (n := 2 + 1) (by omega), ?_⟩;refine Z8 (A.add 2 1, 3, en') [0, 1, 2, 3, 4] ⟨by subst hA; exact ⟨rfl⟩, by show (1 : Nat) <= 3; decide, by show (3 : Nat) <= 3; decide, ?_, hen'⟩ (by show (3 : Nat) - 3 < 3 - 2; decide) ?_
    ·exact (hsv2.1 rfl)
    ·exact ⟨by decide, Zeb, ⟨rfl, rfl, rfl, rfl, rfl, trivial⟩, ⟨rfl, rfl, rfl, trivial⟩, rfl, rfl⟩
   | true =>
    have hqq := hq en' 2 (hsv2.2 rfl).symm hen';cbv;refine Z7 ?_;cbv;exact Z2 [0, 1, 2] (by decide) Zeb (H' := gH J en') (d' := I 2) ⟨rfl, rfl, rfl, trivial⟩ rfl (Z1 hqq)
 ·obtain rfl : i = 3 := v1.eq;have hqq := hq en 0 (show 0 = sv from v4.symm) hen;refine Zi Z0 hA hS ?_;cbv;refine bmF (by subst hA; rfl) ?_;cbv;refine Z7 ?_;cbv;exact Z2 [0, 1, 2] (by decide) Zeb (H' := gH J en) (d' := I 0) ⟨rfl, rfl, rfl, trivial⟩ rfl (Z1 hqq)
end Go.Proofs.YtggilmnhgjofiaaGreat

namespace Go.Proofs.YtggilmnhgjofiaaGreat
open Go Go.Abs Go.Proofs
set_option maxRecDepth 40000 in
set_option maxHeartbeats 8000000 in
theorem Z24v (J : JbP) (l : Nat) (tp rt : Nat) (tpI rtI lfI : Int) (h1 : IsI tpI tp) (h2 : IsI rtI rt) (h3 : IsI lfI l) (a b : Int)
  (hst : ∀ ents, MetOk J ents -> ∀ Q : RA -> List Blk -> Prop, (∀ ents' v, v = Z1vu J l (a, b) tp rt -> MetOk J ents' -> Q (RA.ret (I v)) (gH J ents')) -> CallA Tryz.prog 44 [gDat J 0 1, .agg [I a, I b, I tpI, I rtI, I lfI]] (gH J ents) Q)
  (ents) (he : MetOk J ents) (Q : RA -> List Blk -> Prop) (hq : ∀ ents' v, v = Z1u4 J l (a, b) tp rt -> MetOk J ents' -> Q (RA.ret (.v (.bool v))) (gH J ents')) :
  CallA Tryz.prog 72 [.agg [I a, I b, I tpI, I rtI, I lfI], .b 0 0, .b 1 0] (gH J ents) Q := by
 obtain ⟨A, hA⟩ : ∃ A, A = ar := ⟨_, rfl⟩;have hss := Z1y6 J l (a, b) tp rt;have hget := he.get (a := a) (b := b) h1 h2 h3 (D.v (.bool false));obtain ⟨sv, hsv⟩ : ∃ sv, sv = Z1u4 J l (a, b) tp rt := ⟨_, rfl⟩;rw [<- hsv] at hq hss hget;rw [<- hA] at hget;have hput : ∀ en v, MetOk J en -> v = sv -> MetOk J (A.mput en [a, b, tpI, rtI, lfI] (D.v (.bool v))) := fun en v hen hv => by subst hA; exact hen.put (a := a) (b := b) h1 h2 h3 (hv.trans hsv)
 clear hsv;refine Z5 Z0 hA Tryz.func72 rfl rfl rfl rfl rfl fun S hS => ?_;cbv;refine Z4 hS [.agg [I J.w0, I J.w1], .agg [I a, I b]] [] [] rfl rfl rfl rfl rfl rfl rfl rfl (by decide) trivial (lHas J.w0 J.w1 a b _ fun v hv => Z3 Z0 hA hS ?_);rw [<- hv] at hss
 cases v with
 | true =>
  have hqq := hq ents true (by rw [hss]; rfl) he;cbv;exact Z2 [0, 1, 2] (by decide) Zeb (H' := gH J ents) (d' := .v (.bool true)) ⟨rfl, rfl, rfl, trivial⟩ rfl (Z1 hqq)
 | false =>
  rw [Bool.false_or] at hss;rcases hget with ⟨g1, g2⟩ | ⟨g1, g2⟩
  ·have hqq := hq ents sv rfl he;cbv;refine ⟨[a, b, tpI, rtI, lfI], ⟨rfl, rfl⟩, Need.mk ⟨_, g2, ?_⟩⟩;cbv;refine bmT g1 ?_;cbv;exact Z2 [0, 1, 2] (by decide) Zeb (H' := gH J ents) (d' := .v (.bool sv)) ⟨rfl, rfl, rfl, trivial⟩ rfl (Z1 hqq)
  ·cbv;refine ⟨[a, b, tpI, rtI, lfI], ⟨rfl, rfl⟩, Need.mk ⟨_, g2, ?_⟩⟩;cbv;refine bmF g1 ?_;cbv;refine Z4 hS [gDat J 0 1, .agg [I a, I b, I tpI, I rtI, I lfI]] [0, 1, 2] (gH J ents) rfl rfl rfl rfl rfl rfl rfl rfl (by decide) ⟨rfl, rfl, rfl, trivial⟩ (hst ents he _ fun en v hv hen => Z3 Z0 hA hS ?_);obtain ⟨vb, hvb⟩ : ∃ vb, vb = A.cmp .gtr v 0 := ⟨_, rfl⟩;have hvs : vb = sv := by rw [hss, <- hv, hvb]; subst hA; rfl
   have hqq := hq _ vb hvs (hput en vb hen hvs);rw [hvb] at hqq;cbv;refine ⟨[a, b, tpI, rtI, lfI], ⟨rfl, rfl⟩, ?_⟩;cbv;exact Z2 [0, 1, 2] (by decide) Zeb (H' := gH J _) (d' := .v (.bool _)) ⟨rfl, rfl, rfl, trivial⟩ rfl (Z1 hqq)
theorem Z1yw (J : JbP) (hOk : OkG J) : ∀ l, Z234 J l
 | 0 => fun tp rt tpI rtI lfI h1 h2 h3 _ _ x y _ ents he Q hq => Z24v J 0 tp rt tpI rtI lfI h1 h2 h3 x y (fun en hen Q' hq' => Z21l J x y tpI rtI lfI h3 en hen Q' (hq' en 0 rfl hen)) ents he Q hq
 | l + 1 => fun tp rt tpI rtI lfI h1 h2 h3 h4 h5 x y hp ents he Q hq => Z24v J (l + 1) tp rt tpI rtI lfI h1 h2 h3 x y (fun en hen Q' hq' => Z21m J hOk l (Z1yw J hOk l) x y tp rt tpI rtI lfI h1 h2 h3 (by omega) (by omega) hp en hen Q' hq') ents he Q hq
theorem Z261 (J : JbP) (hOk : OkG J) (l : Nat) (hl : l <= 10) (a b : Int) (lfI : Int) (h3 : IsI lfI l) (hp : PB l (a, b)) (ents) (he : MetOk J ents) (Q)
  (hq : ∀ ents' v, v = Z1vu J l (a, b) 0 0 -> MetOk J ents' -> Q (RA.ret (I v)) (gH J ents')) :
  CallA Tryz.prog 44 [gDat J 0 1, .agg [I a, I b, I 0, I 0, I lfI]] (gH J ents) Q := by
 cases l with
 | zero => exact Z21l J a b 0 0 lfI h3 ents he Q (hq ents 0 rfl he)
 | succ l => exact Z21m J hOk l (Z1yw J hOk l) a b 0 0 0 0 lfI ⟨rfl⟩ ⟨rfl⟩ h3 (by omega) (by omega) hp ents he Q hq
end Go.Proofs.YtggilmnhgjofiaaGreat

namespace Go.Proofs.YtggilmnhgjofiaaGreat
open Go Go.Abs Go.Proofs
theorem Z27 {A : Ar} (hA : A = ar) {k b : Nat} (hk : k <= 1000000) (hb : b <= 1000) : A.room (A.addN k 1) b := by
 subst hA;have : (k + 1) * b <= 1000001 * 1000 := Nat.mul_le_mul (by omega) hb;exact ⟨by show (k + 1) * b <= 140737488355328; omega, by show k + 1 <= 4611686018427387904; omega⟩
theorem Ze {A : Ar} (hA : A = ar) {l : List D} {n : Nat} (h : l.length = n) : A.eqN n (A.len l) := by subst hA; exact h.symm
theorem xaddN {A : Ar} (hA : A = ar) (n m : Nat) : A.addN n m = n + m := by subst hA; rfl
def jDat (J : JbP) : D := .agg [I J.p0, I J.p1, I J.t0, I J.t1, I J.r0, I J.r1, I J.u0, I J.u1, I J.d0, I J.d1, I J.x0, I J.x1, I J.y0, I J.y1, I J.least, .sl 2 J.SL, I J.wi, I J.me]
def Z1uu (w : Int) (s : R2) : R2 := (-w - s.1, w - s.2)
def Z1wg (w : Int) (s : R2) : R2 := (-w - s.2, w - s.1)
def Z1vz (l : List R2) : R2 := (l.drop 1).foldl Z1vg (l.headD (0, 0))
set_option maxRecDepth 40000 in
set_option maxHeartbeats 8000000 in
theorem Z21n (J : JbP) (sh : List R2) (hS0 : J.SL = sh.map rD) (hne : sh ≠ []) (hl : sh.length <= 100) (hw : MidV J.wi) (hs : ∀ s ∈ sh, MidV s.1 /\ MidV s.2) (Q)
  (hq : ∀ a b c d, (a, b) = Z1vz (sh.map (Z1uu J.wi)) -> (c, d) = Z1vz (sh.map (Z1wg J.wi)) -> Q (RA.ret (.tup [.agg [I a, I b], .agg [I c, I d]])) []) :
  CallA Tryz.prog 71 [jDat J] [] Q := by
 obtain ⟨A, hA⟩ : ∃ A, A = ar := ⟨_, rfl⟩;obtain ⟨w1, w2⟩ := hw;obtain ⟨N, hN⟩ : ∃ N, N = sh.length := ⟨_, rfl⟩;have hpos : 0 < N := by rw [hN]; exact List.length_pos_iff.2 hne
 have hLl : J.SL.length = N := by rw [hS0, hN]; simp
 have hN100 : N <= 100 := by omega
 have hget : ∀ k, k < N -> ∃ s0 s1 : Int, J.SL[k]? = some (.agg [I s0, I s1]) /\ sh[k]? = some (s0, s1) /\ -1000000 <= s0 /\ s0 <= 1000000 /\ -1000000 <= s1 /\ s1 <= 1000000 := fun k hk => by
  have hk' : k < sh.length := by omega
  obtain ⟨h1, h2⟩ := hs sh[k] (List.getElem_mem hk');exact ⟨sh[k].1, sh[k].2, by rw [hS0]; simp [hk', rD], by simp [hk'], h1.1, h1.2, h2.1, h2.2⟩
 have htake : ∀ (k : Nat) (s : R2) (g : R2 -> D), sh[k]? = some s -> (sh.take (k + 1)).map g = (sh.take k).map g ++ [g s] := fun k s g h => by
  rw [List.take_add_one, h]; simp
 refine Z5 Z0 hA Tryz.func71 rfl rfl rfl rfl rfl fun S hS => ?_;cbv;refine ⟨by subst hA; exact Zbu (n := -J.wi) (by omega), ?_⟩;refine bmF (by subst hA; show ((J.SL.length : Int) == 0) = false; rw [hLl]; exact beq_false_of_ne (by omega)) ?_;cbv;refine Zpi hS 5 2 rfl ?_;cbv;refine Zpi hS 6 2 rfl ?_;cbv;refine Zb hS ?_;refine Za (α := Int × Nat × List D × List D) (fun q => { env := [(1, .b 0 0), (2, .b 1 0), (3, .b 2 0), (4, .b 3 0), (5, .o 4 2 q.2.1), (6, .o 5 2 q.2.1), (22, .sl 2 J.SL), (23, I (A.oi (A.len J.SL))), (24, I q.1)], H := [.box (jDat J), .box (.agg [I 0, I 0]), .box (.agg [I 0, I 0]), .box (.agg [I (A.neg J.wi), I J.wi]), .els 2 q.2.2.1, .els 2 q.2.2.2], nt := 69, dfs := [] })
  (fun q => N - q.2.1) (fun q => IsI q.1 q.2.1 /\ q.2.1 <= N /\ q.2.2.1 = (sh.take q.2.1).map (fun s => rD (Z1uu J.wi s)) /\ q.2.2.2 = (sh.take q.2.1).map (fun s => rD (Z1wg J.wi s))) (0, 0, [], []) ⟨⟨rfl⟩, Nat.zero_le _, rfl, rfl⟩ ?_ ?_
 ·exact Zf [0, 1, 2, 3, 4, 5] ⟨by decide, Z9, ⟨rfl, rfl, rfl, rfl, rfl, rfl, trivial⟩, ⟨rfl, rfl, rfl, rfl, rfl, rfl, rfl, rfl, rfl, trivial⟩, rfl, rfl⟩
 rintro ⟨i, k, E1, E2⟩ ⟨v1, v2, v3, v4⟩;dsimp only at v1 v2 v3 v4;have hE1 : E1.length = k := by rw [v3]; simp; omega
 have hE2 : E2.length = k := by rw [v4]; simp; omega
 refine Zi Z0 hA hS ?_;cbv;refine bm (fun c => ?_) (fun c => ?_)
 ·have hk := Z31 hA hLl v1 c;obtain ⟨s0, s1, g1, g2, g3, g4, g5, g6⟩ := hget k hk;have hin := Z1b hA hLl v1 hk;have hg := Z18 hA v1 g1;have hf1 := Zy hA v1 (by omega);have hu1 := Zz hA v1;have hms : N - (k + 1) < N - k := by omega
  have e1 := htake k (s0, s1) (fun s => rD (Z1uu J.wi s)) g2;have e2 := htake k (s0, s1) (fun s => rD (Z1wg J.wi s)) g2;rw [<- v3] at e1;rw [<- v4] at e2;cbv;refine ⟨hin, Need.mk ⟨_, hg, ?_⟩⟩;cbv;refine ⟨by subst hA; exact Zbu (n := -J.wi - s0) (by omega), by subst hA; exact Zbu (n := J.wi - s1) (by omega), Ze hA hE1, Ze hA rfl, Z27 hA (by omega) (by decide), by subst hA; exact Zbu (n := -J.wi - s1) (by omega), by subst hA; exact Zbu (n := J.wi - s0) (by omega), Ze hA hE2, Ze hA rfl, Z27 hA (by omega) (by decide), hf1, ?_⟩;refine Z8 (A.add i 1, A.addN k 1, _, _) [0, 1, 2, 3, 8, 10] ⟨by rw [xaddN hA]; exact hu1, by rw [xaddN hA]; exact hk, ?_, ?_⟩ (by rw [xaddN hA]; exact hms) (by
   exact ⟨by decide, Z9, ⟨rfl, rfl, rfl, rfl, rfl, rfl, trivial⟩, ⟨rfl, rfl, rfl, rfl, rfl, rfl, rfl, rfl, rfl, trivial⟩, rfl, rfl⟩)
  ·rw [xaddN hA]; show _ = (sh.take (k + 1)).map (fun s => rD (Z1uu J.wi s)); rw [e1]; subst hA; rfl
  ·rw [xaddN hA]; show _ = (sh.take (k + 1)).map (fun s => rD (Z1wg J.wi s)); rw [e2]; subst hA; rfl
 ·have hk := Z21 hA hLl v1 c;rw [List.take_of_length_le (by omega)] at v3 v4;obtain ⟨s, rest, hsr⟩ : ∃ s rest, sh = s :: rest := by
   cases sh with
   | nil => exact absurd rfl hne
   | cons s rest => exact ⟨s, rest, rfl⟩
  have hrl : rest.length + 1 = N := by rw [hN, hsr]; simp
  have m1 : ∀ x y, (x, y) = (rest.map (Z1uu J.wi)).foldl Z1vg ((Z1uu J.wi s).1, (Z1uu J.wi s).2) -> (x, y) = Z1vz (sh.map (Z1uu J.wi)) := fun x y h => by rw [h, hsr]; rfl
  have m2 : ∀ x y, (x, y) = (rest.map (Z1wg J.wi)).foldl Z1vg ((Z1wg J.wi s).1, (Z1wg J.wi s).2) -> (x, y) = Z1vz (sh.map (Z1wg J.wi)) := fun x y h => by rw [h, hsr]; rfl
  rw [hsr] at v3 v4;have q1 : A.get E1 (A.tn 0) = some (.agg [I (Z1uu J.wi s).1, I (Z1uu J.wi s).2]) := by subst hA; rw [v3]; rfl
  have q2 : A.get E2 (A.tn 0) = some (.agg [I (Z1wg J.wi s).1, I (Z1wg J.wi s).2]) := by subst hA; rw [v4]; rfl
  obtain ⟨D1, hD1⟩ : ∃ D1, D1 = A.sub2 E1 1 (A.oi (A.len E1)) := ⟨_, rfl⟩;obtain ⟨D2, hD2⟩ : ∃ D2, D2 = A.sub2 E2 1 (A.oi (A.len E2)) := ⟨_, rfl⟩;have d1 : D1 = (rest.map (Z1uu J.wi)).map rD := by
   rw [hD1]; subst hA;rw [v3];show (List.take _ (_ :: _)).drop 1 = _;rw [List.take_of_length_le (by simp [ar])];simp
  have d2 : D2 = (rest.map (Z1wg J.wi)).map rD := by
   rw [hD2]; subst hA;rw [v4];show (List.take _ (_ :: _)).drop 1 = _;rw [List.take_of_length_le (by simp [ar])];simp
  obtain ⟨a0, ha0⟩ : ∃ a0, a0 = (Z1uu J.wi s).1 := ⟨_, rfl⟩;obtain ⟨a1, ha1⟩ : ∃ a1, a1 = (Z1uu J.wi s).2 := ⟨_, rfl⟩;obtain ⟨c0, hc0⟩ : ∃ c0, c0 = (Z1wg J.wi s).1 := ⟨_, rfl⟩;obtain ⟨c1, hc1⟩ : ∃ c1, c1 = (Z1wg J.wi s).2 := ⟨_, rfl⟩;rw [<- ha0, <- ha1] at q1 m1;rw [<- hc0, <- hc1] at q2 m2;have n1 : A.sub2OK E1 1 (A.oi (A.len E1)) := by subst hA; show 0 <= (1 : Int) /\ (1 : Int) <= (E1.length : Nat) /\ _; rw [hE1]; refine ⟨by omega, by omega, ?_⟩; show ((E1.length : Nat) : Int) <= _; omega
  have n2 : A.sub2OK E2 1 (A.oi (A.len E2)) := by subst hA; show 0 <= (1 : Int) /\ (1 : Int) <= (E2.length : Nat) /\ _; rw [hE2]; refine ⟨by omega, by omega, ?_⟩; show ((E2.length : Nat) : Int) <= _; omega
  have n3 : A.inb 0 (A.len E1) := by subst hA; show (0 : Int) <= 0 /\ (0 : Int) < (E1.length : Nat); omega
  have n4 : A.inb 0 (A.len E2) := by subst hA; show (0 : Int) <= 0 /\ (0 : Int) < (E2.length : Nat); omega
  clear v3 v4 ha0 ha1 hc0 hc1;cbv;refine Z1a hA [4, 5] ?_;cbv;refine ⟨Ze hA hE1, Ze hA hE2, Z7 ?_⟩;cbv;refine Z16 Z0 hA hS [0, 1, 2, 3, 4, 6, 7, 8, 9, 10, 5, 11, 12, 13] rfl rfl fun Dk hDk => ?_;cbv;refine ⟨n3, Need.mk ⟨_, q1, ?_⟩⟩;cbv;refine ⟨n1, n4, Need.mk ⟨_, q2, ?_⟩⟩;cbv;refine ⟨n2, ?_⟩;refine Zq hA hDk [.agg [I a0, I a1], .sl 2 (A.sub2 E1 1 (A.oi (A.len E1)))] [] [] rfl rfl rfl rfl rfl rfl rfl rfl rfl rfl rfl (by decide) trivial (Z21j a0 a1 (rest.map (Z1uu J.wi)) _ (hD1 ▸ d1) (by simp; omega) _ fun a b hab => ⟨by cbv; repeat' (first | exact trivial | exact n3 | exact n4 | exact n1 | exact n2 | exact Need.mk ⟨_, q1, rfl⟩ | exact Need.mk ⟨_, q2, rfl⟩ | refine ⟨?_, ?_⟩), Zx Z0 hA hDk ?_⟩);have hq1 := m1 a b hab;cbv;refine Zq hA hDk [.agg [I c0, I c1], .sl 2 (A.sub2 E2 1 (A.oi (A.len E2)))] [] [] rfl rfl rfl rfl rfl rfl rfl rfl rfl rfl rfl (by decide) trivial (Z21j c0 c1 (rest.map (Z1wg J.wi)) _ (hD2 ▸ d2) (by simp; omega) _ fun e f hef => ⟨by cbv; repeat' (first | exact trivial | exact n3 | exact n4 | exact n1 | exact n2 | exact Need.mk ⟨_, q1, rfl⟩ | exact Need.mk ⟨_, q2, rfl⟩ | refine ⟨?_, ?_⟩), Zx Z0 hA hDk ?_⟩);have hq2 := m2 e f hef;cbv;exact Z2 (H' := []) (d' := .tup [.agg [I a, I b], .agg [I e, I f]]) [] (by simp) (fun i hi => absurd hi (by simp)) trivial rfl (Z1 (hq a b e f hq1 hq2))
end Go.Proofs.YtggilmnhgjofiaaGreat

namespace Go.Proofs.YtggilmnhgjofiaaGreat
open Go Go.Abs Go.Proofs
def InR (lo hi : Int) (x : R2) : Prop := lo <= x.1 /\ x.1 <= x.2 /\ x.2 <= hi
theorem Z1yj (a b lo hi : Int) (h : InR lo hi (a, b)) (Q) (hq : Q (RA.ret (I 0)) []) : CallA Tryz.prog 69 [.agg [I a, I b], I lo, I hi] [] Q := by
 obtain ⟨A, hA⟩ : ∃ A, A = ar := ⟨_, rfl⟩;obtain ⟨h1, h2, h3⟩ := h;dsimp only at h1 h2 h3;have b1 : (decide (lo <= a) && decide (a <= hi)) = true := by simp; omega
 have b2 : (decide (lo <= b) && decide (b <= hi)) = true := by simp; omega
 refine Z5 Z0 hA Tryz.func69 rfl rfl rfl rfl rfl fun S hS => ?_;cbv;refine Z4 hS [I a, I lo, I hi] [] [] rfl rfl rfl rfl rfl rfl rfl rfl (by decide) trivial (Z1wo a lo hi _ fun v hv => Z3 Z0 hA hS ?_);obtain rfl : v = true := hv.trans b1;cbv;refine bmF (by subst hA; rfl) ?_;cbv;refine Zg hS (b := false) rfl rfl rfl rfl rfl rfl rfl rfl (fun _ => ⟨[], _, [I b, I lo, I hi], [], [], rfl, rfl, rfl, by decide, trivial, Z1wo b lo hi _ fun v hv => Z3 Z0 hA hS ?_⟩) (fun h => absurd rfl h);obtain rfl : v = true := hv.trans b2;cbv;refine bmF (by subst hA; rfl) ?_;cbv;refine bmF (by subst hA; exact decide_eq_false (by show ¬ (b < a); omega)) ?_;cbv;exact Z2 (H' := []) (d' := I 0) [] (by simp) (fun i hi => absurd hi (by simp)) trivial rfl (Z1 hq)
set_option maxRecDepth 40000 in
set_option maxHeartbeats 4000000 in
theorem Z1yc (lo hi : Int) (l : List R2) (L : List D) (hL : L = l.map rD) (hl : l.length <= 1000) (h : ∀ x ∈ l, InR lo hi x) (Q) (hq : Q (RA.ret (I 0)) []) : CallA Tryz.prog 70 [I lo, I hi, .sl 2 L] [] Q := by
 obtain ⟨A, hA⟩ : ∃ A, A = ar := ⟨_, rfl⟩;have hLl : L.length = l.length := by rw [hL]; simp
 have hLk : ∀ k, k < l.length -> ∃ a b, L[k]? = some (.agg [I a, I b]) /\ InR lo hi (a, b) := fun k hk => ⟨l[k].1, l[k].2, by rw [hL]; simp [hk, rD], h l[k] (List.getElem_mem hk)⟩;obtain ⟨N, hN⟩ : ∃ N, N = l.length := ⟨_, rfl⟩;rw [<- hN] at hLl hl hLk;refine Z5 Z0 hA Tryz.func70 rfl rfl rfl rfl rfl fun S hS => ?_;cbv;refine Zb hS ?_;refine Za (α := Int × Nat) (fun q => { env := [(0, I lo), (1, I hi), (6, I 0), (10, .sl 2 L), (11, I (A.oi (A.len L))), (12, I q.1)], H := [], nt := 24, dfs := [] })
  (fun q => N - q.2) (fun q => IsI q.1 q.2 /\ q.2 <= N) (0, 0) ⟨⟨rfl⟩, Nat.zero_le _⟩ ?_ ?_
 ·exact Zf [] ⟨by decide, Z9, trivial, ⟨rfl, rfl, rfl, rfl, rfl, rfl, trivial⟩, rfl, rfl⟩
 rintro ⟨i, k⟩ ⟨u1, u2⟩;dsimp only at u1 u2;refine Zi Z0 hA hS ?_;cbv;refine bm (fun c => ?_) (fun c => ?_)
 ·have hk := Z31 hA hLl u1 c;obtain ⟨a, b, g1, g2⟩ := hLk k hk;have hin := Z1b hA hLl u1 hk;have hg := Z18 hA u1 g1;have hf1 := Zy hA u1 (by omega);have hu1 := Zz hA u1;have hms : N - (k + 1) < N - k := by omega
  cbv;refine ⟨hin, Need.mk ⟨_, hg, ?_⟩⟩;cbv;refine Z4 hS [.agg [I a, I b], I lo, I hi] [] [] rfl rfl rfl rfl rfl rfl rfl rfl (by decide) trivial (Z1yj a b lo hi g2 _ (Z3 Z0 hA hS ?_));cbv;refine bmF (by subst hA; rfl) ?_;cbv;refine ⟨hf1, ?_⟩;refine Z8 (A.add i 1, k + 1) [] ⟨hu1, hk⟩ hms ?_;exact ⟨by decide, Z9, trivial, ⟨rfl, rfl, rfl, rfl, rfl, rfl, trivial⟩, rfl, rfl⟩
 ·cbv;refine Z7 ?_;cbv;exact Z1 hq
structure OkJ (J : JbP) (sh : List R2) : Prop where
 p : InR (-60) 60 (J.p0, J.p1)
 t : InR 0 100 (J.t0, J.t1)
 r : InR 0 100 (J.r0, J.r1)
 u : InR 0 12 (J.u0, J.u1)
 d : InR 0 12 (J.d0, J.d1)
 x : InR 0 12 (J.x0, J.x1)
 y : InR 0 12 (J.y0, J.y1)
 least : 0 <= J.least /\ J.least <= 100
 sl : J.SL = sh.map rD
 len : sh.length <= 4
 sh : ∀ s ∈ sh, InR (-60) 60 s
 wi : 0 <= J.wi /\ J.wi <= 60
 me : 0 <= J.me /\ J.me <= 6
set_option maxRecDepth 40000 in
set_option maxHeartbeats 8000000 in
theorem Z1xq (J : JbP) (sh : List R2) (h : OkJ J sh) (Q) (hq : Q (RA.ret (I 0)) []) : CallA Tryz.prog 35 [jDat J] [] Q := by
 obtain ⟨A, hA⟩ : ∃ A, A = ar := ⟨_, rfl⟩;obtain ⟨hl1, hl2⟩ := h.least;obtain ⟨hw1, hw2⟩ := h.wi;obtain ⟨hm1, hm2⟩ := h.me;have b1 : (decide (0 <= J.least) && decide (J.least <= 100)) = true := by simp; omega
 have b2 : (decide (0 <= J.wi) && decide (J.wi <= 60)) = true := by simp; omega
 have b3 : (decide (0 <= J.me) && decide (J.me <= 6)) = true := by simp; omega
 have hlen : J.SL.length <= 4 := by rw [h.sl]; simpa using h.len
 have hgt : A.cmp .gtr (A.oi (A.len J.SL)) 4 = false := by subst hA; exact decide_eq_false (by show ¬ ((4 : Int) < (J.SL.length : Nat)); omega)
 refine Z5 Z0 hA Tryz.func35 rfl rfl rfl rfl rfl fun S hS => ?_;cbv;refine Z4 hS [.agg [I J.p0, I J.p1], I (-60), I 60] [] [] rfl rfl rfl rfl rfl rfl rfl rfl (by decide) trivial (Z1yj J.p0 J.p1 (-60) 60 h.p _ (Z3 Z0 hA hS ?_));cbv;refine bmF (by subst hA; rfl) ?_;cbv;refine Z26 hS (Z1a hA [1] ?_);cbv;refine ⟨by subst hA; rfl, Z7 ?_⟩;refine Z4 hS [I 0, I 100, .sl 2 [.agg [I J.t0, I J.t1], .agg [I J.r0, I J.r1]]] [] [] rfl rfl rfl rfl rfl rfl rfl rfl (by decide) trivial (Z1yc 0 100 [(J.t0, J.t1), (J.r0, J.r1)] _ rfl (by simp) (by simp [h.t, h.r]) _ (Z3 Z0 hA hS ?_));cbv;refine bmF (by subst hA; rfl) ?_;cbv;refine Z26 hS (Z1a hA [2] ?_);cbv;refine ⟨by subst hA; rfl, Z7 ?_⟩;refine Z4 hS [I 0, I 12, .sl 2 [.agg [I J.u0, I J.u1], .agg [I J.d0, I J.d1], .agg [I J.x0, I J.x1], .agg [I J.y0, I J.y1]]] [] [] rfl rfl rfl rfl rfl rfl rfl rfl (by decide) trivial (Z1yc 0 12 [(J.u0, J.u1), (J.d0, J.d1), (J.x0, J.x1), (J.y0, J.y1)] _ rfl (by simp) (by simp [h.u, h.d, h.x, h.y]) _ (Z3 Z0 hA hS ?_));cbv;refine bmF (by subst hA; rfl) ?_;cbv;refine Z4 hS [I J.least, I 0, I 100] [] [] rfl rfl rfl rfl rfl rfl rfl rfl (by decide) trivial (Z1wo J.least 0 100 _ fun v hv => Z3 Z0 hA hS ?_);obtain rfl : v = true := hv.trans b1;cbv;refine bmF (by subst hA; rfl) ?_;cbv;refine bmF hgt ?_;cbv;refine Z4 hS [I (-60), I 60, .sl 2 J.SL] [] [] rfl rfl rfl rfl rfl rfl rfl rfl (by decide) trivial (Z1yc (-60) 60 sh J.SL h.sl (by have := h.len; omega) h.sh _ (Z3 Z0 hA hS ?_));cbv;refine bmF (by subst hA; rfl) ?_;cbv;refine Z4 hS [I J.wi, I 0, I 60] [] [] rfl rfl rfl rfl rfl rfl rfl rfl (by decide) trivial (Z1wo J.wi 0 60 _ fun v hv => Z3 Z0 hA hS ?_);obtain rfl : v = true := hv.trans b2;cbv;refine bmF (by subst hA; rfl) ?_;cbv;refine Zg hS (b := false) rfl rfl rfl rfl rfl rfl rfl rfl (fun _ => ⟨[], _, [I J.me, I 0, I 6], [], [], rfl, rfl, rfl, by decide, trivial, Z1wo J.me 0 6 _ fun v hv => Z3 Z0 hA hS ?_⟩) (fun h => absurd rfl h);obtain rfl : v = true := hv.trans b3;cbv;refine bmF (by subst hA; rfl) ?_;cbv;exact Z2 (H' := []) (d' := I 0) [] (by simp) (fun i hi => absurd hi (by simp)) trivial rfl (Z1 hq)
end Go.Proofs.YtggilmnhgjofiaaGreat

namespace Go.Proofs.YtggilmnhgjofiaaGreat
open Go Go.Abs Go.Proofs
def winJ (J : JbP) (a b : Int) : JbP := { J with w0 := a, w1 := b }
theorem OkJ.sm {J : JbP} {sh : List R2} (h : OkJ J sh) : ∀ s ∈ sh, MidV s.1 /\ MidV s.2 := fun s hs => by
 have := h.sh s hs;simp only [InR, MidV] at this ⊢;omega
theorem OkJ.wm {J : JbP} {sh : List R2} (h : OkJ J sh) : MidV J.wi := by
 have := h.wi;simp only [MidV];omega
theorem OkJ.g {J : JbP} {sh : List R2} (h : OkJ J sh) (a b : Int) : OkG (winJ J a b) := by
 obtain ⟨-, t, r, u, d, x, y, -, -, -, -, -, m⟩ := h;simp only [InR] at t r u d x y;exact ⟨by simp only [winJ]; omega, by simp only [winJ]; omega, by simp only [winJ]; omega, by simp only [winJ]; omega, by simp only [winJ]; omega, by simp only [winJ]; omega, by simp only [winJ]; omega⟩
theorem OkJ.pb {J : JbP} {sh : List R2} (h : OkJ J sh) (n : Nat) (hn : n <= 4) : PB n (J.p0, J.p1) := by
 have := h.p;simp only [InR, PB] at this ⊢;omega
set_option maxRecDepth 40000 in
set_option maxHeartbeats 8000000 in
theorem Z26t (J : JbP) (sh : List R2) (h : OkJ J sh) (hne : sh ≠ []) (Q) (hq : ∀ a b, (a, b) = Z1vz (sh.map (Z1uu J.wi)) -> Q (RA.ret (gDat (winJ J a b) 0 1)) (gH (winJ J a b) [])) : CallA Tryz.prog 36 [jDat J] [] Q := by
 obtain ⟨A, hA⟩ : ∃ A, A = ar := ⟨_, rfl⟩;refine Z5 Z0 hA Tryz.func36 rfl rfl rfl rfl rfl fun S hS => ?_;cbv;refine Z4 hS [jDat J] [] [] rfl rfl rfl rfl rfl rfl rfl rfl (by decide) trivial (Z21n J sh h.sl hne (by have := h.len; omega) h.wm h.sm _ fun a b c d hab hcd => Z3 Z0 hA hS ?_);have hqq := hq a b hab;cbv;exact Z2 [4, 6, 5] (by decide) Z9 (H' := gH (winJ J a b) []) (d' := gDat (winJ J a b) 0 1) ⟨rfl, rfl, rfl, trivial⟩ rfl (Z1 hqq)
def Z1w0 (f : Nat -> Bool) : Option Nat := (List.range 5).find? f
theorem Z21o {f : Nat -> Bool} (h : ∀ n, n < 5 -> f n = false) : Z1w0 f = none := by
 rw [Z1w0, List.find?_eq_none];intro n hn;rw [h n (by simpa using hn)]; simp
theorem Z1yk {f : Nat -> Bool} {k : Nat} (hk : k < 5) (h : ∀ n, n < k -> f n = false) (hf : f k = true) : Z1w0 f = some k := by
 have e : List.range 5 = List.range k ++ (k :: (List.range (5 - k - 1)).map (k + 1 + ·)) := by
  match k, hk with
  | 0, _ => rfl
  | 1, _ => rfl
  | 2, _ => rfl
  | 3, _ => rfl
  | 4, _ => rfl
 rw [Z1w0, e, List.find?_append, List.find?_eq_none.2 (fun n hn => by rw [h n (by simpa using hn)]; simp)];simp [hf]
def gHH (J : JbP) (ents : List (List Int × D)) : List Blk := [.box (gDat J 1 2), .box (gDat J 1 2), .box (.mv 3), .ob (.mp 5 ents)]
set_option maxRecDepth 40000 in
set_option maxHeartbeats 8000000 in
theorem Z236 (F : FuncId) (d : D) (J : JbP) (hd : frD d = true) (f : Nat -> Bool) (hf : ∀ (n : Nat) (nI : Int), IsI nI n -> n <= 4 -> ∀ ents, MetOk J ents -> ∀ Q : RA -> List Blk -> Prop, (∀ ents' v, v = f n -> MetOk J ents' -> Q (RA.ret (.v (.bool v))) (gHH J ents')) -> CallA Tryz.prog F [I nI, .b 0 0, .cb d 0] (gHH J ents) Q)
  (ents) (he : MetOk J ents) (Q) (hq1 : ∀ ents' n nI, MetOk J ents' -> Z1w0 f = some n -> IsI nI n -> Q (RA.ret (.tup [I nI, .v (.bool true)])) (gHH J ents')) (hq2 : ∀ ents', MetOk J ents' -> Z1w0 f = none -> Q (RA.ret (.tup [I 0, .v (.bool false)])) (gHH J ents')) :
  CallA Tryz.prog 37 [.fn F [.b 0 0, .cb d 0]] (gHH J ents) Q := by
 obtain ⟨A, hA⟩ : ∃ A, A = ar := ⟨_, rfl⟩;refine Z5 Z0 hA Tryz.func37 rfl rfl rfl rfl rfl fun S hS => ?_;cbv;refine Zb hS ?_;refine Za (α := Int × Nat × List (List Int × D)) (fun q => { env := [(0, .fn F [.b 0 0, .cb d 0]), (2, I 0), (3, .v (.bool false)), (5, I q.1)], H := gHH J q.2.2, nt := 13, dfs := [] })
  (fun q => 5 - q.2.1) (fun q => IsI q.1 q.2.1 /\ q.2.1 <= 5 /\ (∀ n, n < q.2.1 -> f n = false) /\ MetOk J q.2.2) (0, 0, ents) ⟨⟨rfl⟩, Nat.zero_le _, fun n h => absurd h (Nat.not_lt_zero n), he⟩ ?_ ?_
 ·exact Zf [0, 1, 2, 3] ⟨by decide, pre4, ⟨rfl, rfl, rfl, rfl, trivial⟩, ⟨rfl, rfl, rfl, rfl, trivial⟩, rfl, rfl⟩
 rintro ⟨i, k, en⟩ ⟨u1, u2, u3, hen⟩;dsimp only at u1 u2 u3 hen;refine Zi Z0 hA hS ?_;cbv;refine bm (fun c => ?_) (fun c => ?_)
 ·have hk : k < 5 := yltC hA 5 u1 c;have hf1 := Zy hA u1 (by omega);have hu1 := Zz hA u1;have hms : 5 - (k + 1) < 5 - k := by omega
  obtain ⟨fk, hfk⟩ : ∃ fk, fk = f k := ⟨_, rfl⟩;have hcall := hf k i u1 (by omega) en hen;rw [<- hfk] at hcall;cbv;refine Z4 hS [I i, .b 0 0, .cb d 0] [0, 1, 2, 3] (gHH J en) rfl rfl rfl rfl rfl rfl rfl rfl (by decide) ⟨rfl, rfl, rfl, rfl, trivial⟩ (hcall _ fun en' v hv hen' => Z3 Z0 hA hS ?_)
  cases v with
  | true =>
   have hqq := hq1 en' k i hen' (Z1yk hk u3 (hfk.symm.trans hv.symm)) u1;cbv;refine Z7 ?_;cbv;exact Z2 [0, 1, 2, 3] (by decide) pre4 (H' := gHH J en') (d' := .tup [I i, .v (.bool true)]) ⟨rfl, rfl, rfl, rfl, trivial⟩ rfl (Z1 hqq)
  | false =>
   cbv;refine ⟨hf1, ?_⟩;refine Z8 (A.add i 1, k + 1, en') [0, 1, 2, 3] ⟨hu1, hk, fun n hn => ?_, hen'⟩ hms ?_
   ·by_cases e : n = k
    ·subst e; exact hfk.symm.trans hv.symm
    ·replace hn : n < k + 1 := hn
     exact u3 n (by omega)
   ·exact ⟨by decide, pre4, ⟨rfl, rfl, rfl, rfl, trivial⟩, ⟨rfl, rfl, rfl, rfl, trivial⟩, rfl, rfl⟩
 ·have hk : 5 <= k := Z197 hA 5 u1 c;have hqq := hq2 en hen (Z21o fun n hn => u3 n (by omega));cbv;refine Z7 ?_;cbv;exact Z2 [0, 1, 2, 3] (by decide) pre4 (H' := gHH J en) (d' := .tup [I 0, .v (.bool false)]) ⟨rfl, rfl, rfl, rfl, trivial⟩ rfl (Z1 hqq)
theorem Z24w (J : JbP) (hOk : OkG J) (d : D) (hd : d = jDat J) (n : Nat) (nI : Int) (hn : IsI nI n) (hn4 : n <= 4) (hp : PB n (J.p0, J.p1)) (ents) (he : MetOk J ents) (Q : RA -> List Blk -> Prop) (hq : ∀ ents' v, v = Z1v4 J n (J.p0, J.p1) 0 0 -> MetOk J ents' -> Q (RA.ret (.v (.bool v))) (gHH J ents')) :
  CallA Tryz.prog 38 [I nI, .b 0 0, .cb d 0] (gHH J ents) Q := by
 obtain ⟨A, hA⟩ : ∃ A, A = ar := ⟨_, rfl⟩;subst hd;refine Z5 Z0 hA Tryz.func38 rfl rfl rfl rfl rfl fun S hS => ?_;cbv;refine Z4 hS [gDat J 0 1, .agg [I J.p0, I J.p1, I 0, I 0, I nI]] [1, 2, 3] (gH J ents) rfl rfl rfl rfl rfl rfl rfl rfl (by decide) ⟨rfl, rfl, rfl, trivial⟩ (Z22e J n 0 0 nI (fun q => Z1u4 J n q 0 0) (MetOk J) (fun x y hxy en hen Q' hq' => Z1yw J hOk n 0 0 0 0 nI ⟨rfl⟩ ⟨rfl⟩ hn (by omega) (by omega) x y hxy en hen Q' hq') J.p0 J.p1 hp hOk.me ents he _ fun en v hv hen => Z3 Z0 hA hS ?_);have hqq := hq en v hv hen;cbv;exact Z2 [0, 1, 2, 3] (by decide) pre4 (H' := gHH J en) (d' := .v (.bool v)) ⟨rfl, rfl, rfl, rfl, trivial⟩ rfl (Z1 hqq)
theorem Z27d (J : JbP) (hOk : OkG J) (d : D) (hd : d = jDat J) (n : Nat) (nI : Int) (hn : IsI nI n) (hn4 : n <= 4) (hp : PB n (J.p0, J.p1)) (ents) (he : MetOk J ents) (Q : RA -> List Blk -> Prop) (hq : ∀ ents' v, v = Z1u4 J n (J.p0, J.p1) 0 0 -> MetOk J ents' -> Q (RA.ret (.v (.bool v))) (gHH J ents')) :
  CallA Tryz.prog 43 [I nI, .b 0 0, .cb d 0] (gHH J ents) Q := by
 obtain ⟨A, hA⟩ : ∃ A, A = ar := ⟨_, rfl⟩;subst hd;refine Z5 Z0 hA Tryz.func43 rfl rfl rfl rfl rfl fun S hS => ?_;cbv;refine Z4 hS [.agg [I J.p0, I J.p1, I 0, I 0, I nI], .b 0 0, .b 1 0] [1, 2, 3] (gH J ents) rfl rfl rfl rfl rfl rfl rfl rfl (by decide) ⟨rfl, rfl, rfl, trivial⟩ (Z1yw J hOk n 0 0 0 0 nI ⟨rfl⟩ ⟨rfl⟩ hn (by omega) (by omega) J.p0 J.p1 hp ents he _ fun en v hv hen => Z3 Z0 hA hS ?_);have hqq := hq en v hv hen;cbv;exact Z2 [0, 1, 2, 3] (by decide) pre4 (H' := gHH J en) (d' := .v (.bool v)) ⟨rfl, rfl, rfl, rfl, trivial⟩ rfl (Z1 hqq)
def Z1xh (J : JbP) : Option Nat := Z1w0 fun n => Z1v4 J n (J.p0, J.p1) 0 0
def Z21p (J : JbP) : Option Nat := Z1w0 fun n => Z1u4 J n (J.p0, J.p1) 0 0
set_option maxRecDepth 40000 in
set_option maxHeartbeats 8000000 in
theorem Z20r (J : JbP) (sh : List R2) (h : OkJ J sh) (hne : sh ≠ []) (Q) (hq : ∀ a b, (a, b) = Z1vz (sh.map (Z1uu J.wi)) -> (∀ n nI, Z1xh (winJ J a b) = some n -> IsI nI n -> Q (RA.ret (.tup [I nI, I 0])) []) /\ (Z1xh (winJ J a b) = none -> Q (RA.ret (.tup [I 0, I 11])) [])) :
  CallA Tryz.prog 11 [jDat J] [] Q := by
 obtain ⟨A, hA⟩ : ∃ A, A = ar := ⟨_, rfl⟩;refine Z5 Z0 hA Tryz.func11 rfl rfl rfl rfl rfl fun S hS => ?_;cbv;refine Z4 hS [jDat J] [] [] rfl rfl rfl rfl rfl rfl rfl rfl (by decide) trivial (Z1xq J sh h _ (Z3 Z0 hA hS ?_));cbv;refine bmF (by subst hA; rfl) ?_;cbv;refine Z4 hS [jDat J] [] [] rfl rfl rfl rfl rfl rfl rfl rfl (by decide) trivial (Z26t J sh h hne _ fun a b hab => Z3 Z0 hA hS ?_);obtain ⟨hq1, hq2⟩ := hq a b hab;have hG := h.g a b;cbv;refine Z26 hS (Z1a hA [0] ?_);cbv;refine Z7 ?_;refine Z4 hS [.fn 38 [.b 0 0, .cb (jDat (winJ J a b)) 0]] [4, 1, 2, 3] (gHH (winJ J a b) []) rfl rfl rfl rfl rfl rfl rfl rfl (by decide) ⟨rfl, rfl, rfl, rfl, trivial⟩
  (Z236 38 (jDat (winJ J a b)) (winJ J a b) rfl (fun n => Z1v4 (winJ J a b) n (J.p0, J.p1) 0 0) (fun n nI hn hn4 en hen Q' hq' => Z24w (winJ J a b) hG _ rfl n nI hn hn4 (h.pb n hn4) en hen Q' hq') [] .nil _ (fun en n nI hen hle hn => Z3 Z0 hA hS ?_) (fun en hen hle => Z3 Z0 hA hS ?_))
 ·have hqq := hq1 n nI hle hn;cbv;refine bmF (by subst hA; rfl) ?_;cbv;exact Z2 (H' := []) (d' := .tup [I nI, I 0]) [] (by simp) (fun i hi => absurd hi (by simp)) trivial rfl (Z1 hqq)
 ·have hqq := hq2 hle;cbv;refine bmT (by subst hA; rfl) ?_;cbv;exact Z2 (H' := []) (d' := .tup [I 0, I 11]) [] (by simp) (fun i hi => absurd hi (by simp)) trivial rfl (Z1 hqq)
end Go.Proofs.YtggilmnhgjofiaaGreat

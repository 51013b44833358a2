/- Part TxAZ of the proofs about the benches of the accordion maker: see the last text of the claim for what is proved. -/
import Derived.Test.YtggilmnhgjofiaaGreatTxAY
set_option linter.unusedVariables false
set_option linter.unusedSimpArgs false
set_option linter.unnecessarySimpa false
set_option linter.constructorNameAsVariable false

namespace Go.Abs
open Go Go.Conc
open Go.ConcN (sumTo upd sumTo_upd upd_ne upd_same)
section
variable {P : Program} {N cb c : Nat} {gs : Array Goroutine} {w : World} {sl : Option (Nat × Nat)} {t : Trace} {q : Nat -> Nat}
theorem Z1v5 {f : Goroutine -> Goroutine} {g' : Goroutine} {i j : Nat} (hne : i ≠ j) : ((gs.map f).setIfInBounds i g')[j]? = (gs[j]?).map f := by
 rw [Array.getElem?_setIfInBounds_ne hne, Array.getElem?_map]
theorem Z1wy {i : Nat} {g : Goroutine} (hi0 : i ≠ 0) (hi : gs[i]? = some g) (hg : g.status = .running) (hq : QuitsD P (q i) (Deaf t i) g) :
  ∃ k g' es, q i = k + 1 /\ runT P (crowd gs w sl) i = (.next (crowd ((gs.map (woken P g g' w)).setIfInBounds i g') w sl), MemOp.ofEvents i g.frame.fn g.frame.place es) /\ (∀ e ∈ es, e.mute = true) /\ QuitsD P k (deafBehind (Deaf t i) es) g' := by
 have hi0' : (i == 0) = false := by simp [hi0]
 cases hqi : q i with
 | zero => rw [hqi] at hq; rw [hq.1] at hg; cases hg
 | succ k =>
  rw [hqi] at hq;rcases hq with ⟨hf, _⟩ | ⟨_, g', es, hm, hstp, hq'⟩
  ·rw [hf] at hg; cases hg
  ·exact ⟨k, g', es, rfl, runT_crowd_go (P := P) (sl := sl) (i := i) hi (by rw [hi0']; exact hstp w), hm, hq'⟩
theorem Z1we {i : Nat} {fn : FuncId} {pos : String} {es : Array Event} : ∀ op ∈ MemOp.ofEvents i fn pos es, op.g = i := fun op hop => by obtain ⟨e, _, rfl⟩ := Go.Conc.mem_ofEvents hop; rfl
theorem Z217 {i : Nat} {fn : FuncId} {pos : String} {es : Array Event} (hm : ∀ e ∈ es, e.mute = true) : ∀ op ∈ MemOp.ofEvents i fn pos es, op.act.touch? = none := fun op hop => by obtain ⟨e, he, rfl⟩ := Go.Conc.mem_ofEvents hop; exact touch_mute (hm e he)
theorem Z1z9 {i k n : Nat} (hlt : i < n) (hqi : q i = k + 1) : sumTo n (upd q i k) + 1 = sumTo n q := by
 have h : sumTo n (upd q i k) + (k + 1) = sumTo n q + k := by
  have := sumTo_upd q k id hlt;simpa [hqi] using this
 omega
theorem LeavX.moved (h : LeavX P c t gs q) {i k : Nat} {g g' : Goroutine} {es : Array Event} {w' : World} (hlt : i < gs.size) (hq : QuitsD P k (deafBehind (Deaf t i) es) g') {fn : FuncId} {pos : String} :
  LeavX P c (t ++ MemOp.ofEvents i fn pos es) ((gs.map (woken P g g' w')).setIfInBounds i g') (upd q i k) := by
 refine ⟨fun j x hj hjc hx => ?_, fun j hj => ?_⟩
 ·by_cases hji : i = j
  ·subst hji;rw [Array.getElem?_setIfInBounds_self_of_lt (by simpa using hlt)] at hx;obtain rfl := Option.some.inj hx;rw [upd_same, Deaf_own];exact hq
  ·rw [Z1v5 hji] at hx;obtain ⟨y, hy, rfl⟩ := Option.map_eq_some_iff.1 hx;have hqj := h.old j y hj hjc hy;rw [woken_quitsD hqj, upd_ne q k (Ne.symm hji), Deaf_other t hji _ Z1we];exact hqj
 ·rw [Deaf_other t (g' := i) (by simp at hj; omega) _ Z1we];exact h.above j (by simpa using hj)
theorem LeavX.byOther (h : LeavX P c t gs q) {i : Nat} {g g' : Goroutine} {w' : World} (hlt : i < gs.size) (hi : i = 0 ∨ i = c) {u : Trace} (hu : ∀ op ∈ u, op.g = i) :
  LeavX P c (t ++ u) ((gs.map (woken P g g' w')).setIfInBounds i g') q := by
 refine ⟨fun j x hj hjc hx => ?_, fun j hj => ?_⟩
 ·have hji : i ≠ j := by omega
  rw [Z1v5 hji] at hx;obtain ⟨y, hy, rfl⟩ := Option.map_eq_some_iff.1 hx;have hqj := h.old j y hj hjc hy;rw [woken_quitsD hqj, Deaf_other t hji _ hu];exact hqj
 ·rw [Deaf_other t (g' := i) (by simp at hj; omega) _ hu];exact h.above j (by simpa using hj)
theorem LeavX.laid (h : LeavX P c t gs q) {gs' : Array Goroutine} (hs : gs'.size = gs.size) (hg : ∀ j, j ≠ 0 -> j ≠ c -> gs'[j]? = gs[j]?) {u : Trace} (hd : ∀ g, Deaf (t ++ u) g = Deaf t g) : LeavX P c (t ++ u) gs' q :=
 ⟨fun j x hj hjc hx => by rw [hd]; exact h.old j x hj hjc (by rw [<- hg j (by omega) hjc]; exact hx), fun j hj => by rw [hd]; exact h.above j (hs ▸ hj)⟩
def Ends (P : Program) (X : Frame -> List Frame -> World -> Prop) (gs : Array Goroutine) (w : World) (sl : Option (Nat × Nat)) (t : Trace) : Prop :=
 ∃ (n : Nat) (gs' : Array Goroutine) (fr' : Frame) (cs' : List Frame) (w' : World) (sl' : Option (Nat × Nat)) (t' : Trace),
  runNT P n (crowd gs w sl) t = (.next (crowd gs' w' sl'), t') /\ Co P fr' cs' gs' t' /\ X fr' cs' w'
theorem Ends.step {X : Frame -> List Frame -> World -> Prop} {gs gs' : Array Goroutine} {w w' : World} {sl sl' : Option (Nat × Nat)} {t u : Trace} (hs : stepT P (crowd gs w sl) = (.next (crowd gs' w' sl'), u)) (h : Ends P X gs' w' sl' (t ++ u)) : Ends P X gs w sl t := by
 obtain ⟨n, gs'', fr', cs', w'', sl'', t', h1, h2, h3⟩ := h;exact ⟨n + 1, gs'', fr', cs', w'', sl'', t', by simp only [runNT, hs]; exact h1, h2, h3⟩
theorem Z1za {X : Frame -> List Frame -> World -> Prop} {gp : Goroutine} (hrun0 : gp.status = .running) {w : World} {I : Trace -> World -> Prop}
  (hI : ∀ t (i : Nat) fn pos es d d', i ≠ 0 -> (∀ e ∈ es, Event.mute e = true) -> I t (w.at d) -> I (t ++ MemOp.ofEvents i fn pos es) (w.at d'))
  (h : ∀ (d : Nat) (gs : Array Goroutine) (sl : Option (Nat × Nat)) (t : Trace) (q : Nat -> Nat), gs[0]? = some gp -> Leavers P t gs q -> I t (w.at d) ->
   ∃ gs' w' sl' u, runT P (crowd gs (w.at d) sl) 0 = (.next (crowd gs' w' sl'), u) /\ Ends P X gs' w' sl' (t ++ u)) :
  ∀ (M : Nat) (d0 : Nat) (gs : Array Goroutine) (sl : Option (Nat × Nat)) (t : Trace) (q : Nat -> Nat), sumTo gs.size q = M -> gs[0]? = some gp -> Leavers P t gs q -> I t (w.at d0) -> Ends P X gs (w.at d0) sl t := by
 intro M
 induction M using Nat.strongRecOn with
 | _ M ih =>
 intro d0 gs sl t q hM h0 hL hIt;have haw : ∀ g ∈ gs, awake g := by
  intro g hg;obtain ⟨i, hi, rfl⟩ := Array.mem_iff_getElem.1 hg;rcases Nat.eq_zero_or_pos i with rfl | hpos
  ·have : gs[0] = gp := by simpa [Array.getElem?_eq_getElem hi] using h0
   rw [this]; exact awake_of (.inl hrun0)
  ·exact awake_of ((hL.old i _ hpos (Array.getElem?_eq_getElem hi)).status.elim .inl fun x => .inr (.inr x))
 obtain ⟨i, g, d, sl', hi, hg, hst⟩ := crowd_pick (P := P) (w := w.at d0) (sl := sl) haw ⟨0, _, h0, hrun0⟩;have hlt : i < gs.size := (Array.getElem?_eq_some_iff.1 hi).1;rcases Nat.eq_zero_or_pos i with rfl | hpos
 ·obtain ⟨gs', w', sl'', u, hr, he⟩ := h d gs sl' t q h0 hL (by have := hI t 1 (default : FuncId) "" #[] d0 d (by omega) (by simp) hIt; simpa [MemOp.ofEvents] using this);exact Ends.step (hst.trans hr) he
 ·obtain ⟨k, g', es, hqi, hrun, hm, hq'⟩ := Z1wy (P := P) (w := (w.at d0).at d) (sl := sl') (q := q) (t := t) (by omega) hi hg (hL.old i g hpos hi);have hsum := Z1z9 (q := q) hlt hqi;refine Ends.step (hst.trans hrun) (ih (sumTo gs.size (upd q i k)) (by omega) d _ sl' _ (upd q i k) (by simp) ?_ ⟨fun j x hj hx => ?_, fun j hj => ?_⟩ (hI _ _ _ _ _ _ _ (by omega) hm hIt))
  ·rw [Z1v5 (by omega), h0]; simp [woken_run hrun0]
  ·by_cases hji : i = j
   ·subst hji;rw [Array.getElem?_setIfInBounds_self_of_lt (by simpa using hlt)] at hx;obtain rfl := Option.some.inj hx;rw [upd_same, Deaf_own];exact hq'
   ·rw [Z1v5 hji] at hx;obtain ⟨y, hy, rfl⟩ := Option.map_eq_some_iff.1 hx;have hqj := hL.old j y hj hy;rw [woken_quitsD hqj, upd_ne q k (Ne.symm hji), Deaf_other t hji _ Z1we];exact hqj
  ·rw [Deaf_other t (g' := i) (by simp at hj; omega) _ Z1we];exact hL.above j (by simpa using hj)
def InB (N c cb m : Nat) (s r : Nat) (tm : Bool) (Oa Ob : Nat -> Prop) (t : Trace) (w : World) : Prop :=
 w.heap[cb]? = some (.chan 0 #[] true s r tm) /\ PhC N c cb m Oa Ob t /\ Lie N Oa Ob w
theorem InB.mute {m s r : Nat} {tm : Bool} {Oa Ob : Nat -> Prop} (t : Trace) (i : Nat) (fn : FuncId) (pos : String) (es : Array Event) (w : World) (d d' : Nat) (hi : i ≠ 0) (hm : ∀ e ∈ es, Event.mute e = true) (h : InB N c cb m s r tm Oa Ob t (w.at d)) :
  InB N c cb m s r tm Oa Ob (t ++ MemOp.ofEvents i fn pos es) (w.at d') :=
 ⟨h.1, h.2.1.mute (Z217 hm) (by rw [Deaf_other t hi _ Z1we]; exact h.2.1.h0), h.2.2.same rfl⟩
theorem Z1y1 {z : Value} {X : Frame -> List Frame -> World -> Prop} {m : Nat} {Oa Ob : Nat -> Prop} {s r : Nat} {tm : Bool} {g : Goroutine} {fr : Frame} {cs : List Frame} {w wa : World} (hfr : g.status = .running)
  (hcomm : ∀ w₁, stepG P true g w₁ = .comm (G fr cs) #[rcase cb z] true (.recv true) w₁) (hstop : Z1w1 P N cb z X [] Oa fr cs wa) (hra : Rl N cb Oa wa w)
  (M : Nat) (d0 : Nat) (gs : Array Goroutine) (sl : Option (Nat × Nat)) (t : Trace) (q : Nat -> Nat) (hM : sumTo gs.size q = M) (h0 : gs[0]? = some g) (hL : Leavers P t gs q) (hI : InB N c cb m s r tm Oa Ob t (w.at d0)) : Ends P X gs (w.at d0) sl t := by
 refine Z1za hfr (I := InB N c cb m s r tm Oa Ob) (fun t i fn pos es d d' => InB.mute t i fn pos es w d d') (fun d gs sl t q h0 hL hIt => ?_) M d0 gs sl t q hM h0 hL hI;have hlt : 0 < gs.size := (Array.getElem?_eq_some_iff.1 h0).1;have hrun := crowd_recv_closed (P := P) (sl := sl) (i := 0) h0 (hcomm (w.at d)) hIt.1 (partners_nil fun j x hj => by
  rcases getElem?_stand gs 0 j x hj with ⟨-, rfl⟩ | ⟨hne, hj⟩
  ·exact offersAt_ph _ _
  ·refine offersAt_of_not_blocked ?_ _ _
   rcases (hL.old j x (by omega) hj).status with h | h <;> rw [h] <;> simp)
 have e : MemOp.ofEvents 0 g.frame.fn g.frame.place #[] = #[] := rfl;rw [e, Array.empty_append, finishComm_recv] at hrun;refine ⟨_, _, _, _, hrun, ⟨0, _, fr.finish (.tuple #[z, .bool false]), cs, _, _, _, rfl, ⟨?_, ⟨q, fun j x hj hx => ?_, fun j hj => ?_⟩, hIt.2.1.found⟩, hstop.2 _ (hra.trans (Rl.at w d))⟩⟩
 ·simp [hlt]; rfl
 ·rw [Array.getElem?_setIfInBounds_ne (by omega)] at hx;rw [Deaf_push];exact hL.old j x hj hx
 ·rw [Deaf_push];exact hL.above j (by simpa using hj)
theorem Z26y {z : Value} {X : Frame -> List Frame -> World -> Prop} {m : Nat} {Ob : Nat -> Prop} {s r : Nat} {tm : Bool} (hc0 : c ≠ 0) (hcb : cb < N) {Oa : Nat -> Prop} {fr : Frame} {cs : List Frame} {wa : World} (ta : Gx P true N cb (Z1w1 P N cb z X []) Oa fr cs wa) :
  ∀ (w : World), Rl N cb Oa wa w -> ∀ (d0 : Nat) (gs : Array Goroutine) (sl : Option (Nat × Nat)) (t : Trace) (q : Nat -> Nat), gs[0]? = some (G fr cs) -> Leavers P t gs q -> InB N c cb m s r tm Oa Ob t (w.at d0) -> Ends P X gs (w.at d0) sl t := by
 induction ta with
 | stop h => exact fun w hra d0 gs sl t q h0 hL hI => Z1y1 rfl h.comm h hra _ d0 gs sl t q rfl h0 hL hI
 | @node Oa fr cs wa fr' cs' w' es O' hst hk ih =>
  intro w hra d0 gs sl t q h0 hL hI;refine Z1za (gp := G fr cs) rfl (I := InB N c cb m s r tm Oa Ob) (fun t i fn pos es d d' => InB.mute t i fn pos es w d d') (fun d gs sl t q h0 hL hIt => ?_) _ d0 gs sl t q rfl h0 hL hI;have hlt : 0 < gs.size := (Array.getElem?_eq_some_iff.1 h0).1;obtain ⟨hgo, hgr, hev⟩ := hst (w.at d) (hra.trans (Rl.at w d));have hrun := runT_crowd_go (P := P) (sl := sl) (i := 0) h0 (show stepG P (0 == 0) (G fr cs) (w.at d) = _ from hgo);obtain ⟨hcd, hT, hlie⟩ := hIt;have hl2 := hlie.step hgr;refine ⟨_, _, _, _, hrun, ih (w.at d) (hra.trans (Rl.at w d)) (w' (w.at d)) (Rl.refl _) (w' (w.at d)).drawn _ sl _ q (by simp [hlt]) ⟨fun j x hj hx => ?_, fun j hj => ?_⟩ ⟨(hlie.cb hcb hgr).trans hcd, hT.add0 hl2.dis (fun b hb => (hl2.a b hb).1) (fun b hb => (hl2.b b hb).1) hc0 hev, hl2⟩⟩
  ·rw [Z1v5 (by omega)] at hx;obtain ⟨y, hy, rfl⟩ := Option.map_eq_some_iff.1 hx;have hqj := hL.old j y hj hy;rw [woken_quitsD hqj, Deaf_other t (show (0 : Nat) ≠ j by omega) _ Z1we];exact hqj
  ·rw [Deaf_other t (g' := 0) (by simp at hj; omega) _ Z1we];exact hL.above j (by simpa using hj)
end
end Go.Abs

namespace Go.Abs
open Go Go.Conc
open Go.ConcN (sumTo upd sumTo_upd upd_ne upd_same)
section
variable {P : Program} {N cb c : Nat} {z zc : Value} {X : Frame -> List Frame -> World -> Prop}
theorem Z205 (a b : Nat) (fa : FuncId) (pa : String) (fb : FuncId) (pb : String) (k k' cap : Nat) {u : Trace}
  (hu : u = #[{ g := a, fn := fa, pos := pa, act := .send cb k }, { g := b, fn := fb, pos := pb, act := .recv cb k' cap }, { g := a, fn := fa, pos := pa, act := .sendDone cb k }, { g := b, fn := fb, pos := pb, act := .recvDone cb k' }]) :
  (∀ op ∈ u, op.act.touch? = none) /\ ∀ (t : Trace) (g : Nat), Deaf (t ++ u) g = Deaf t g := by
 subst hu;refine ⟨fun op hop => ?_, fun t g => Deaf_quiet fun op hop d => ?_⟩ <;>
 ·simp only [List.mem_toArray, List.mem_cons, List.not_mem_nil, or_false] at hop;rcases hop with rfl | rfl | rfl | rfl <;> rfl
def InA (N c cb : Nat) (s r : Nat) (tm : Bool) (Oa Ob : Nat -> Prop) (t : Trace) (w : World) : Prop :=
 w.heap[cb]? = some (.chan 0 #[] false s r tm) /\ PhT N c Oa Ob t /\ Lie N Oa Ob w
theorem InA.mute {s r : Nat} {tm : Bool} {Oa Ob : Nat -> Prop} {t : Trace} {i : Nat} {fn : FuncId} {pos : String} {es : Array Event} {w : World} {d d' : Nat} (hi : i ≠ 0) (hic : i ≠ c) (hm : ∀ e ∈ es, Event.mute e = true) (h : InA N c cb s r tm Oa Ob t (w.at d)) :
  InA N c cb s r tm Oa Ob (t ++ MemOp.ofEvents i fn pos es) (w.at d') :=
 ⟨h.1, h.2.1.mute (Z217 hm) (by rw [Deaf_other t hi _ Z1we]; exact h.2.1.h0) (by rw [Deaf_other t hic _ Z1we]; exact h.2.1.hc), h.2.2.same rfl⟩
theorem InA.pass {s r : Nat} {tm : Bool} {Oa Ob : Nat -> Prop} {t u : Trace} {w : World} (h : InA N c cb s r tm Oa Ob t w) (hmu : ∀ op ∈ u, op.act.touch? = none) (hde : ∀ (t : Trace) (g : Nat), Deaf (t ++ u) g = Deaf t g) :
  InA N c cb (s + 1) (r + 1) tm Oa Ob (t ++ u) (w.setChan cb 0 #[] false (s + 1) (r + 1) tm) :=
 ⟨heap_put h.1, h.2.1.mute hmu ((hde t 0).trans h.2.1.h0) ((hde t c).trans h.2.1.hc), h.2.2.same (by simp [World.setChan])⟩
def Cfg (P : Program) (X : Frame -> List Frame -> World -> Prop) (N cb c : Nat) (gp gc : Goroutine) (Oa Ob : Nat -> Prop) (w : World) : Prop :=
 ∀ (d0 : Nat) (gs : Array Goroutine) (sl : Option (Nat × Nat)) (t : Trace) (q : Nat -> Nat) (s r : Nat) (tm : Bool), gs[0]? = some gp -> gs[c]? = some gc -> LeavX P c t gs q -> InA N c cb s r tm Oa Ob t (w.at d0) -> Ends P X gs (w.at d0) sl t
def Z218 (P : Program) (X : Frame -> List Frame -> World -> Prop) (N cb c : Nat) (gp gc : Goroutine) (Oa Ob : Nat -> Prop) (w : World) (i : Nat) : Prop :=
 ∀ (d : Nat) (gs : Array Goroutine) (sl : Option (Nat × Nat)) (t : Trace) (q : Nat -> Nat) (s r : Nat) (tm : Bool), gs[0]? = some gp -> gs[c]? = some gc -> LeavX P c t gs q -> InA N c cb s r tm Oa Ob t (w.at d) ->
  ∃ gs' w' sl' u, runT P (crowd gs (w.at d) sl) i = (.next (crowd gs' w' sl'), u) /\ Ends P X gs' w' sl' (t ++ u)
theorem Z1vx (hc0 : c ≠ 0) {gp gc : Goroutine} {Oa Ob : Nat -> Prop} {w : World} (awp : awake gp) (awc : awake gc) (one : gp.status = .running ∨ gc.status = .running)
  (wp : ∀ a a' w s r tm, w.heap[cb]? = some (.chan 0 #[] false s r tm) -> woken P a a' w gp = gp) (wc : ∀ a a' w s r tm, w.heap[cb]? = some (.chan 0 #[] false s r tm) -> woken P a a' w gc = gc)
  (mp : gp.status = .running -> Z218 P X N cb c gp gc Oa Ob w 0) (mc : gc.status = .running -> Z218 P X N cb c gp gc Oa Ob w c) : Cfg P X N cb c gp gc Oa Ob w := by
 have key : ∀ (M : Nat) (d0 : Nat) (gs : Array Goroutine) (sl : Option (Nat × Nat)) (t : Trace) (q : Nat -> Nat) (s r : Nat) (tm : Bool), sumTo gs.size q = M -> gs[0]? = some gp -> gs[c]? = some gc -> LeavX P c t gs q -> InA N c cb s r tm Oa Ob t (w.at d0) -> Ends P X gs (w.at d0) sl t := by
  intro M
  induction M using Nat.strongRecOn with
  | _ M ih =>
  intro d0 gs sl t q s r tm hM h0 hgc hL hI;have haw : ∀ g ∈ gs, awake g := by
   intro g hg;obtain ⟨i, hi, rfl⟩ := Array.mem_iff_getElem.1 hg;rcases Nat.eq_zero_or_pos i with rfl | hpos
   ·have : gs[0] = gp := by simpa [Array.getElem?_eq_getElem hi] using h0
    rw [this]; exact awp
   ·by_cases hic : i = c
    ·subst hic;have : gs[i] = gc := by simpa [Array.getElem?_eq_getElem hi] using hgc
     rw [this]; exact awc
    ·exact awake_of ((hL.old i _ hpos hic (Array.getElem?_eq_getElem hi)).status.elim .inl fun x => .inr (.inr x))
  have some1 : ∃ (i : Nat) (g : Goroutine), gs[i]? = some g /\ g.status = .running := one.elim (fun h => ⟨0, _, h0, h⟩) fun h => ⟨c, _, hgc, h⟩;obtain ⟨i, g, d, sl', hi, hg, hst⟩ := crowd_pick (P := P) (w := w.at d0) (sl := sl) haw some1;have hlt : i < gs.size := (Array.getElem?_eq_some_iff.1 hi).1;have hId : InA N c cb s r tm Oa Ob t (w.at d) := ⟨hI.1, hI.2.1, hI.2.2.same rfl⟩
  by_cases hi0 : i = 0
  ·subst hi0;obtain rfl : g = gp := by rw [h0] at hi; exact (Option.some.inj hi).symm
   obtain ⟨gs', w', sl'', u, hr, he⟩ := mp hg d gs sl' t q s r tm h0 hgc hL hId;exact Ends.step (hst.trans hr) he
  by_cases hic : i = c
  ·subst hic;obtain rfl : g = gc := by rw [hgc] at hi; exact (Option.some.inj hi).symm
   obtain ⟨gs', w', sl'', u, hr, he⟩ := mc hg d gs sl' t q s r tm h0 hgc hL hId;exact Ends.step (hst.trans hr) he
  ·obtain ⟨k, g', es, hqi, hrun, hm, hq'⟩ := Z1wy (P := P) (w := (w.at d0).at d) (sl := sl') (q := q) (t := t) hi0 hi hg (hL.old i g (by omega) hic hi);have hsum := Z1z9 (q := q) hlt hqi;exact Ends.step (hst.trans hrun) (ih (sumTo gs.size (upd q i k)) (by omega) d _ sl' _ (upd q i k) s r tm (by simp) (by rw [Z1v5 hi0, h0]; exact congrArg some (wp _ _ ((w.at d0).at d) s r tm hId.1))
    (by rw [Z1v5 hic, hgc]; exact congrArg some (wc _ _ ((w.at d0).at d) s r tm hId.1)) (hL.moved hlt hq') (hI.mute hi0 hic hm))
 exact fun d0 gs sl t q s r tm h0 hgc hL hI => key _ d0 gs sl t q s r tm rfl h0 hgc hL hI
theorem Z20n {t : Trace} {gs : Array Goroutine} {q : Nat -> Nat} (hL : LeavX P c t gs q) (j : Nat) (x : Goroutine) (send : Bool) (hj0 : j ≠ 0) (hjc : j ≠ c) (hx : gs[j]? = some x) : offersAt x cb send = [] :=
 offersAt_of_not_blocked (by rcases (hL.old j x (by omega) hjc hx).status with h | h <;> rw [h] <;> simp) _ _
theorem Z26l (hc0 : c ≠ 0) (hcb : cb < N) {fr fr' : Frame} {cs cs' : List Frame} {gc : Goroutine} {Oa Ob O' : Nat -> Prop} {w w' : World} {es : Array Event} {t : Trace} {gs : Array Goroutine} {sl : Option (Nat × Nat)} {q : Nat -> Nat} {s r : Nat} {tm : Bool}
  (wc : ∀ a a' w s r tm, w.heap[cb]? = some (.chan 0 #[] false s r tm) -> woken P a a' w gc = gc)
  (h0 : gs[0]? = some (G fr cs)) (hgc : gs[c]? = some gc) (hL : LeavX P c t gs q) (hI : InA N c cb s r tm Oa Ob t w) (hgo : stepG P true (G fr cs) w = .go (G fr' cs') w' es) (hgr : Gr Oa O' w w') (hev : EvO N O' es)
  (next : Rl N cb Ob w w' -> Cfg P X N cb c (G fr' cs') gc O' Ob w') : ∃ gs' w' sl' u, runT P (crowd gs w sl) 0 = (.next (crowd gs' w' sl'), u) /\ Ends P X gs' w' sl' (t ++ u) := by
 have hlt : 0 < gs.size := (Array.getElem?_eq_some_iff.1 h0).1;obtain ⟨hcd, hT, hlie⟩ := hI;have hrun := runT_crowd_go (P := P) (sl := sl) (i := 0) h0 (show stepG P (0 == 0) (G fr cs) w = _ from hgo);have hl2 := hlie.step hgr;have hc' := (hlie.cb hcb hgr).trans hcd;exact ⟨_, _, _, _, hrun, next (hlie.rl hgr) w'.drawn _ sl _ q s r tm (by simp [hlt]) (by rw [Z1v5 (fun h => hc0 h.symm), hgc]; simp [wc _ _ _ s r tm hc']) (hL.byOther hlt (.inl rfl) Z1we)
  ⟨hc', hT.add0 hgr.sub hl2.dis (fun b hb => (hl2.a b hb).1) (fun b hb => (hl2.b b hb).1) hc0 hev, hl2⟩⟩
theorem Z249 (hc0 : c ≠ 0) (hcb : cb < N) {fr fr' : Frame} {cs cs' : List Frame} {gp : Goroutine} {Oa Ob O' : Nat -> Prop} {w w' : World} {es : Array Event} {t : Trace} {gs : Array Goroutine} {sl : Option (Nat × Nat)} {q : Nat -> Nat} {s r : Nat} {tm : Bool}
  (wp : ∀ a a' w s r tm, w.heap[cb]? = some (.chan 0 #[] false s r tm) -> woken P a a' w gp = gp)
  (h0 : gs[0]? = some gp) (hgc : gs[c]? = some (G fr cs)) (hL : LeavX P c t gs q) (hI : InA N c cb s r tm Oa Ob t w) (hgo : stepG P false (G fr cs) w = .go (G fr' cs') w' es) (hgr : Gr Ob O' w w') (hev : EvO N O' es)
  (next : Rl N cb Oa w w' -> Cfg P X N cb c gp (G fr' cs') Oa O' w') : ∃ gs' w' sl' u, runT P (crowd gs w sl) c = (.next (crowd gs' w' sl'), u) /\ Ends P X gs' w' sl' (t ++ u) := by
 have hlt : c < gs.size := (Array.getElem?_eq_some_iff.1 hgc).1;obtain ⟨hcd, hT, hlie⟩ := hI;have hi0' : (c == 0) = false := by simp [hc0]
 have hrun := runT_crowd_go (P := P) (sl := sl) hgc (show stepG P (c == 0) (G fr cs) w = _ by rw [hi0']; exact hgo);have hl2 := (hlie.swap.step hgr).swap;have hc' := (hlie.swap.cb hcb hgr).trans hcd;exact ⟨_, _, _, _, hrun, next (hlie.swap.rl hgr) w'.drawn _ sl _ q s r tm (by rw [Z1v5 hc0, h0]; simp [wp _ _ _ s r tm hc']) (by simp [hlt]) (hL.byOther hlt (.inr rfl) Z1we)
  ⟨hc', hT.addc hgr.sub hl2.dis (fun b hb => (hl2.a b hb).1) (fun b hb => (hl2.b b hb).1) hc0 hev, hl2⟩⟩
theorem Z1vd {fr : Frame} {cs : List Frame} : ∀ a a' w (s r : Nat) (tm : Bool), w.heap[cb]? = some (.chan 0 #[] false s r tm) -> woken P a a' w (G fr cs) = G fr cs := fun _ _ _ _ _ _ _ => woken_run rfl
theorem Z20o {g : Goroutine} : ∀ a a' w (s r : Nat) (tm : Bool), w.heap[cb]? = some (.chan 0 #[] false s r tm) -> woken P a a' w (parked g #[rcase cb z] (.recv true)) = parked g #[rcase cb z] (.recv true) := fun a a' _ _ _ _ h => woken_recv_open a a' h
theorem Z20p {g : Goroutine} {v : Value} : ∀ a a' w (s r : Nat) (tm : Bool), w.heap[cb]? = some (.chan 0 #[] false s r tm) -> woken P a a' w (parked g #[scase cb v zc] .send) = parked g #[scase cb v zc] .send := fun a a' _ _ _ _ h => woken_send_open a a' h
theorem Z23i (c : Nat) (fn : FuncId) (pos : String) (cb : Nat) : MemOp.ofEvents c fn pos #[⟨.obj cb, false, true⟩, ⟨.obj cb, true, true⟩] = MemOp.ofEvents c fn pos #[⟨.obj cb, false, true⟩] ++ #[{ g := c, fn, pos, act := .close cb }] := by
 rw [ofEvents_eq, ofEvents_eq]
 apply Array.ext'
 simp [MemAct.ofEvent]
theorem Z24a (hc0 : c ≠ 0) (hcb : cb < N) {frc : Frame} {csc : List Frame} {gp : Goroutine} {Oa Ob : Nat -> Prop} {w wb : World} {t : Trace} {gs : Array Goroutine} {sl : Option (Nat × Nat)} {q : Nat -> Nat} {s r : Nat} {tm : Bool}
  (h0 : gs[0]? = some gp) (hgc : gs[c]? = some (G frc csc)) (hL : LeavX P c t gs q) (hI : InA N c cb s r tm Oa Ob t w) (hstop : Z1w5 P N cb zc [] Ob frc csc wb)
  (next : ∀ (gs' : Array Goroutine) (q' : Nat -> Nat) (t' : Trace) (m : Nat), gs'[0]? = some (gp.again (w.shut cb s r tm)) -> Leavers P t' gs' q' -> InB N c cb m s r tm Oa Ob t' (w.shut cb s r tm) -> Ends P X gs' (w.shut cb s r tm) sl t') :
  ∃ gs' w' sl' u, runT P (crowd gs w sl) c = (.next (crowd gs' w' sl'), u) /\ Ends P X gs' w' sl' (t ++ u) := by
 have hlt : c < gs.size := (Array.getElem?_eq_some_iff.1 hgc).1;have hi0' : (c == 0) = false := by simp [hc0]
 obtain ⟨hcd, hT, hlie⟩ := hI;obtain ⟨g₂, nq, hwake, hclose, hquit⟩ := hstop;have hrun := runT_crowd_go (P := P) (sl := sl) hgc (show stepG P (c == 0) (G frc csc) w = _ by rw [hi0']; exact hclose w s r tm hcd);have hwk : ∀ o, woken P (G frc csc) g₂ (w.shut cb s r tm) o = o.again (w.shut cb s r tm) := by
  intro o; unfold Go.Conc.woken; rcases hquit.status with h | h <;> simp [hwake, h]
 have hc2 : (w.shut cb s r tm).heap[cb]? = some (.chan 0 #[] true s r tm) := heap_put hcd;have ee : ∀ (fn : FuncId) (pos : String), t ++ MemOp.ofEvents c fn pos #[⟨.obj cb, false, true⟩, ⟨.obj cb, true, true⟩] = (t ++ MemOp.ofEvents c fn pos #[⟨.obj cb, false, true⟩]) ++ #[{ g := c, fn, pos, act := .close cb }] := fun fn pos => by rw [Array.append_assoc, <- Z23i]
 have hT2 := hT.addc (Ob' := Ob) (fn := (G frc csc).frame.fn) (pos := (G frc csc).frame.place) (es := #[⟨.obj cb, false, true⟩]) (fun _ h => h) hlie.dis (fun b hb => (hlie.a b hb).1) (fun b hb => (hlie.b b hb).1) hc0 ⟨fun e he => by simp at he; subst he; simp, fun e he x hx => by simp at he; subst he; simp [MemAct.ofEvent, MemAct.touch?] at hx; subst hx; exact .inr ⟨cb, rfl, rfl⟩⟩;have hx := hL.byOther (P := P) (g := G frc csc) (g' := g₂) (w' := w.shut cb s r tm) hlt (.inr rfl) (u := MemOp.ofEvents c (G frc csc).frame.fn (G frc csc).frame.place #[⟨.obj cb, false, true⟩, ⟨.obj cb, true, true⟩]) Z1we;refine ⟨_, _, _, _, hrun, next _ (upd q c nq) _ _ (by rw [Z1v5 hc0, h0]; simp [hwk]) ⟨fun j x hj hxj => ?_, hx.above⟩ ⟨hc2, by rw [ee]; exact hT2.close, hlie.same (by simp [World.shut])⟩⟩
 by_cases hji : j = c
 ·subst hji;rw [Array.getElem?_setIfInBounds_self_of_lt (by simpa using hlt)] at hxj;obtain rfl := Option.some.inj hxj;rw [upd_same, ee, Deaf_push];rw [show ∀ (x : Nat), deafStep j x { g := j, fn := (G frc csc).frame.fn, pos := (G frc csc).frame.place, act := .close cb } = x from fun _ => rfl, hT2.hc];exact QuitsD.of_quitsIn hquit
 ·rw [upd_ne q nq hji];exact hx.old j x hj hji hxj
def Both (P : Program) (N cb c : Nat) (z zc : Value) (X : Frame -> List Frame -> World -> Prop) (vs : List Value) : Prop := ∀ (Oa Ob : Nat -> Prop) (fr frc : Frame) (cs csc : List Frame) (wa wb w : World), Gx P true N cb (Z1w1 P N cb z X vs) Oa fr cs wa -> Gx P false N cb (Z1w5 P N cb zc vs) Ob frc csc wb ->
 Rl N cb Oa wa w -> Rl N cb Ob wb w -> Cfg P X N cb c (G fr cs) (G frc csc) Oa Ob w
theorem Z1ys {O : Nat -> Prop} {w₀ w : World} {s r : Nat} {tm : Bool} (h : Rl N cb O w₀ w) (hO : ¬ O cb) : Rl N cb O w₀ (w.setChan cb 0 #[] false (s + 1) (r + 1) tm) := h.trans (Rl.put _ _ hO)
theorem InA.own {s r : Nat} {tm : Bool} {Oa Ob : Nat -> Prop} {t : Trace} {w : World} (hcb : cb < N) (h : InA N c cb s r tm Oa Ob t w) : ¬ Oa cb /\ ¬ Ob cb :=
 ⟨fun x => by have := (h.2.2.a cb x).1; omega, fun x => by have := (h.2.2.b cb x).1; omega⟩
theorem Z219 (hc0 : c ≠ 0) (hcb : cb < N) (vs : List Value) (ihv : ∀ v vs', vs = v :: vs' -> Both P N cb c z zc X vs') {Oa Ob : Nat -> Prop} {fr frc : Frame} {cs csc : List Frame} {wa wb : World}
  (ha : Z1w1 P N cb z X vs Oa fr cs wa) (tb : Gx P false N cb (Z1w5 P N cb zc vs) Ob frc csc wb) :
  ∀ w, Rl N cb Oa wa w -> Rl N cb Ob wb w -> Cfg P X N cb c (parked (G fr cs) #[rcase cb z] (.recv true)) (G frc csc) Oa Ob w := by
 induction tb with
 | @stop Ob frc csc wb h =>
  intro w hra hrb;refine Z1vx hc0 (awake_of (.inr (.inl rfl))) (awake_of (.inl rfl)) (.inr rfl) Z20o Z1vd (fun h => by cases h) fun _ => ?_;intro d gs sl t q s r tm h0 hgc hL hI;have hi0' : (c == 0) = false := by simp [hc0]
  have hltc : c < gs.size := (Array.getElem?_eq_some_iff.1 hgc).1;have hlt0 : 0 < gs.size := by omega
  cases vs with
  | nil =>
   refine Z24a hc0 hcb h0 hgc hL hI h fun gs' q' t' m' g0 gL gI => ?_;rw [again_recv_closed gI.1] at g0;exact Z1y1 (w := (w.at d).shut cb s r tm) (d0 := d) rfl (fun w₁ => (stepG_tries (g := G fr cs) true _ w₁).trans (ha.comm w₁)) ha ((hra.trans (Rl.at w d)).trans (Rl.put _ _ (hI.own hcb).1)) _ gs' sl t' q' rfl g0 gL gI
  | cons v vs' =>
   obtain ⟨hcommc, hnb⟩ := h;obtain ⟨hcommp, hna⟩ := ha;have e : MemOp.ofEvents c (G frc csc).frame.fn (G frc csc).frame.place #[] = #[] := rfl;have hcm : stepG P (c == 0) (G frc csc) (w.at d) = .comm (G frc csc) #[scase cb v zc] true .send (w.at d) := by rw [hi0']; exact hcommc (w.at d)
   have hrun := crowd_send_meets (P := P) (sl := sl) (i := c) (j := 0) hgc hcm hI.1 (fun h => hc0 h.symm) h0 (by
    rw [partners_one (j := 0) (stand_get (fun h => hc0 h.symm) h0) fun j x hne hj => by
     rcases getElem?_stand gs c j x hj with ⟨-, rfl⟩ | ⟨hnei, hj⟩
     ·exact offersAt_ph _ _
     ·exact Z20n hL j x false hne hnei hj, offersAt_parked_recv]
    simp)
   rw [e, Array.empty_append, finishComm_recv, finishComm_send] at hrun;obtain ⟨hmu, hde⟩ := Z205 (cb := cb) c 0 (G frc csc).frame.fn (G frc csc).frame.place (G fr cs).frame.fn (G fr cs).frame.place s r 0 rfl;have hI' := hI.pass hmu hde;exact ⟨_, _, _, _, hrun, ihv v vs' rfl Oa Ob _ _ cs csc wa wb ((w.at d).setChan cb 0 #[] false (s + 1) (r + 1) tm) hna hnb (Z1ys (hra.trans (Rl.at w d)) (hI.own hcb).1) (Z1ys (hrb.trans (Rl.at w d)) (hI.own hcb).2) d _ sl _ q (s + 1) (r + 1) tm
    (by rw [Array.getElem?_setIfInBounds_ne hc0]; simp [hlt0]; rfl) (by simp [hltc]; rfl) (hL.laid (by simp) (fun j hj0 hjc => by rw [Array.getElem?_setIfInBounds_ne (fun h => hjc h.symm), Array.getElem?_setIfInBounds_ne (fun h => hj0 h.symm)]) (hde t)) hI'⟩
 | @node Ob frc csc wb fr' cs' w' es O' hst hk ih =>
  intro w hra hrb;refine Z1vx hc0 (awake_of (.inr (.inl rfl))) (awake_of (.inl rfl)) (.inr rfl) Z20o Z1vd (fun h => by cases h) fun _ => ?_;intro d gs sl t q s r tm h0 hgc hL hI;obtain ⟨hgo, hgr, hev⟩ := hst (w.at d) (hrb.trans (Rl.at w d));exact Z249 hc0 hcb Z20o h0 hgc hL hI hgo hgr hev fun hrl => ih _ (hrb.trans (Rl.at w d)) _ ((hra.trans (Rl.at w d)).trans hrl) (Rl.refl _)
theorem Z21a (hc0 : c ≠ 0) (hcb : cb < N) (v : Value) (vs : List Value) (ihv : Both P N cb c z zc X vs) {Oa Ob : Nat -> Prop} {fr frc : Frame} {cs csc : List Frame} {wa wb : World}
  (hb : Z1w5 P N cb zc (v :: vs) Ob frc csc wb) (ta : Gx P true N cb (Z1w1 P N cb z X (v :: vs)) Oa fr cs wa) :
  ∀ w, Rl N cb Oa wa w -> Rl N cb Ob wb w -> Cfg P X N cb c (G fr cs) (parked (G frc csc) #[scase cb v zc] .send) Oa Ob w := by
 induction ta with
 | @stop Oa fr cs wa h =>
  intro w hra hrb;refine Z1vx hc0 (awake_of (.inl rfl)) (awake_of (.inr (.inl rfl))) (.inl rfl) Z1vd Z20p (fun _ => ?_) (fun h => by cases h);intro d gs sl t q s r tm h0 hgc hL hI;have hltc : c < gs.size := (Array.getElem?_eq_some_iff.1 hgc).1;have hlt0 : 0 < gs.size := by omega
  obtain ⟨hcommc, hnb⟩ := hb;obtain ⟨hcommp, hna⟩ := h;have e : MemOp.ofEvents 0 (G fr cs).frame.fn (G fr cs).frame.place #[] = #[] := rfl;have hrun := crowd_recv_meets (P := P) (sl := sl) (i := 0) (j := c) h0 (hcommp (w.at d)) hI.1 hc0 hgc (by
   rw [partners_one (j := c) (stand_get hc0 hgc) fun j x hne hj => by
    rcases getElem?_stand gs 0 j x hj with ⟨-, rfl⟩ | ⟨hne0, hj⟩
    ·exact offersAt_ph _ _
    ·exact Z20n hL j x true hne0 hne hj, offersAt_parked_send]
   simp)
  rw [e, Array.empty_append, finishComm_recv, finishComm_send] at hrun;obtain ⟨hmu, hde⟩ := Z205 (cb := cb) c 0 (G frc csc).frame.fn (G frc csc).frame.place (G fr cs).frame.fn (G fr cs).frame.place s r 0 rfl;have hI' := hI.pass hmu hde;exact ⟨_, _, _, _, hrun, ihv Oa Ob _ _ cs csc wa wb ((w.at d).setChan cb 0 #[] false (s + 1) (r + 1) tm) hna hnb (Z1ys (hra.trans (Rl.at w d)) (hI.own hcb).1) (Z1ys (hrb.trans (Rl.at w d)) (hI.own hcb).2) d _ sl _ q (s + 1) (r + 1) tm
   (by simp [hlt0]; rfl) (by rw [Array.getElem?_setIfInBounds_ne (fun h => hc0 h.symm)]; simp [hltc]; rfl) (hL.laid (by simp) (fun j hj0 hjc => by rw [Array.getElem?_setIfInBounds_ne (fun h => hj0 h.symm), Array.getElem?_setIfInBounds_ne (fun h => hjc h.symm)]) (hde t)) hI'⟩
 | @node Oa fr cs wa fr' cs' w' es O' hst hk ih =>
  intro w hra hrb;refine Z1vx hc0 (awake_of (.inl rfl)) (awake_of (.inr (.inl rfl))) (.inl rfl) Z1vd Z20p (fun _ => ?_) (fun h => by cases h);intro d gs sl t q s r tm h0 hgc hL hI;obtain ⟨hgo, hgr, hev⟩ := hst (w.at d) (hra.trans (Rl.at w d));exact Z26l hc0 hcb Z20p h0 hgc hL hI hgo hgr hev fun hrl => ih _ (hra.trans (Rl.at w d)) _ (Rl.refl _) ((hrb.trans (Rl.at w d)).trans hrl)
theorem Z24b (hc0 : c ≠ 0) (hcb : cb < N) (vs : List Value) (ihv : ∀ v vs', vs = v :: vs' -> Both P N cb c z zc X vs') {Oa Ob : Nat -> Prop} {fr frc : Frame} {cs csc : List Frame} {wa wb w : World}
  (ha : Z1w1 P N cb z X vs Oa fr cs wa) (tb : Gx P false N cb (Z1w5 P N cb zc vs) Ob frc csc wb) (hra : Rl N cb Oa wa w) (hrb : Rl N cb Ob wb w) : Z218 P X N cb c (G fr cs) (G frc csc) Oa Ob w 0 := by
 intro d gs sl t q s r tm h0 hgc hL hI;have hlt0 : 0 < gs.size := (Array.getElem?_eq_some_iff.1 h0).1;have e : MemOp.ofEvents 0 (G fr cs).frame.fn (G fr cs).frame.place #[] = #[] := rfl;have hrun := crowd_waits (P := P) (sl := sl) (i := 0) h0 (ha.comm (w.at d)) (fun cc hcc => by
  obtain rfl : cc = rcase cb z := by simpa using hcc
  exact ways_recv_none hI.1 (partners_nil fun j x hj => by
   rcases getElem?_stand gs 0 j x hj with ⟨-, rfl⟩ | ⟨hne, hj⟩
   ·exact offersAt_ph _ _
   ·by_cases hjc : j = c
    ·subst hjc
     obtain rfl : x = G frc csc := by rw [hgc] at hj; exact (Option.some.inj hj).symm
     exact offersAt_of_not_blocked (by simp [G]) _ _
    ·exact Z20n hL j x true hne hjc hj))
 rw [e] at hrun;exact ⟨_, _, _, _, hrun, Z219 hc0 hcb vs ihv ha tb w hra hrb d _ sl _ q s r tm (by simp [hlt0]) (by rw [Array.getElem?_setIfInBounds_ne (fun h => hc0 h.symm)]; exact hgc)
  (hL.laid (by simp) (fun j hj0 _ => Array.getElem?_setIfInBounds_ne (fun h => hj0 h.symm)) (by simp)) (by simpa using hI)⟩
theorem Z24c (hc0 : c ≠ 0) (hcb : cb < N) (vs : List Value) (ihv : ∀ v vs', vs = v :: vs' -> Both P N cb c z zc X vs') {Oa Ob : Nat -> Prop} {fr frc : Frame} {cs csc : List Frame} {wa wb w : World}
  (ta : Gx P true N cb (Z1w1 P N cb z X vs) Oa fr cs wa) (hb : Z1w5 P N cb zc vs Ob frc csc wb) (hra : Rl N cb Oa wa w) (hrb : Rl N cb Ob wb w) : Z218 P X N cb c (G fr cs) (G frc csc) Oa Ob w c := by
 intro d gs sl t q s r tm h0 hgc hL hI;have hi0' : (c == 0) = false := by simp [hc0]
 have hltc : c < gs.size := (Array.getElem?_eq_some_iff.1 hgc).1
 cases vs with
 | nil =>
  refine Z24a hc0 hcb h0 hgc hL hI hb fun gs' q' t' m' g0 gL gI => ?_;rw [again_running _ (.inl rfl)] at g0;exact Z26y hc0 hcb ta ((w.at d).shut cb s r tm) ((hra.trans (Rl.at w d)).trans (Rl.put _ _ (hI.own hcb).1)) d gs' sl t' q' g0 gL gI
 | cons v vs' =>
  have hcm : stepG P (c == 0) (G frc csc) (w.at d) = .comm (G frc csc) #[scase cb v zc] true .send (w.at d) := by rw [hi0']; exact hb.1 (w.at d)
  have e : MemOp.ofEvents c (G frc csc).frame.fn (G frc csc).frame.place #[] = #[] := rfl;have hrun := crowd_waits (P := P) (sl := sl) (i := c) hgc hcm (fun cc hcc => by
   obtain rfl : cc = scase cb v zc := by simpa using hcc
   exact ways_send_none hI.1 (by simp) (partners_nil fun j x hj => by
    rcases getElem?_stand gs c j x hj with ⟨-, rfl⟩ | ⟨hne, hj⟩
    ·exact offersAt_ph _ _
    ·by_cases hj0 : j = 0
     ·subst hj0
      obtain rfl : x = G fr cs := by rw [h0] at hj; exact (Option.some.inj hj).symm
      exact offersAt_of_not_blocked (by simp [G]) _ _
     ·exact Z20n hL j x false hj0 hne hj))
  rw [e] at hrun;exact ⟨_, _, _, _, hrun, Z21a hc0 hcb v vs' (ihv v vs' rfl) hb ta w hra hrb d _ sl _ q s r tm (by rw [Array.getElem?_setIfInBounds_ne hc0]; exact h0) (by simp [hltc])
   (hL.laid (by simp) (fun j _ hjc => Array.getElem?_setIfInBounds_ne (fun h => hjc h.symm)) (by simp)) (by simpa using hI)⟩
theorem Z21b (hc0 : c ≠ 0) (hcb : cb < N) (vs : List Value) (ihv : ∀ v vs', vs = v :: vs' -> Both P N cb c z zc X vs') : Both P N cb c z zc X vs := by
 intro Oa Ob fr frc cs csc wa wb w ta
 revert Ob frc csc wb w
 induction ta with
 | @stop Oa fr cs wa ha =>
  intro Ob frc csc wb w tb
  revert w
  induction tb with
  | @stop Ob frc csc wb hb =>
   intro w hra hrb;refine Z1vx hc0 (awake_of (.inl rfl)) (awake_of (.inl rfl)) (.inl rfl) Z1vd Z1vd (fun _ => ?_) (fun _ => ?_)
   ·exact Z24b hc0 hcb vs ihv ha (.stop hb) hra hrb
   ·exact Z24c hc0 hcb vs ihv (.stop ha) hb hra hrb
  | @node Ob frc csc wb fr' cs' w' es O' hst hk ih =>
   intro w hra hrb;refine Z1vx hc0 (awake_of (.inl rfl)) (awake_of (.inl rfl)) (.inl rfl) Z1vd Z1vd (fun _ => ?_) (fun _ => ?_)
   ·exact Z24b hc0 hcb vs ihv ha (.node fr' cs' w' es O' hst hk) hra hrb
   ·intro d gs sl t q s r tm h0 hgc hL hI;obtain ⟨hgo, hgr, hev⟩ := hst (w.at d) (hrb.trans (Rl.at w d));exact Z249 hc0 hcb Z1vd h0 hgc hL hI hgo hgr hev fun hrl => ih _ (hrb.trans (Rl.at w d)) _ ((hra.trans (Rl.at w d)).trans hrl) (Rl.refl _)
 | @node Oa fr cs wa fra' csa' wa' esa Oa' hsta hka iha =>
  intro Ob frc csc wb w tb
  revert w
  have m0 : ∀ {Ob : Nat -> Prop} {frc : Frame} {csc : List Frame} {wb w : World}, Gx P false N cb (Z1w5 P N cb zc vs) Ob frc csc wb -> Rl N cb Oa wa w -> Rl N cb Ob wb w -> Z218 P X N cb c (G fr cs) (G frc csc) Oa Ob w 0 := by
   intro Ob frc csc wb w tb hra hrb d gs sl t q s r tm h0 hgc hL hI;obtain ⟨hgo, hgr, hev⟩ := hsta (w.at d) (hra.trans (Rl.at w d));exact Z26l hc0 hcb Z1vd h0 hgc hL hI hgo hgr hev fun hrl => iha _ (hra.trans (Rl.at w d)) Ob frc csc wb _ tb (Rl.refl _) ((hrb.trans (Rl.at w d)).trans hrl)
  induction tb with
  | @stop Ob frc csc wb hb =>
   intro w hra hrb;refine Z1vx hc0 (awake_of (.inl rfl)) (awake_of (.inl rfl)) (.inl rfl) Z1vd Z1vd (fun _ => m0 (.stop hb) hra hrb) (fun _ => ?_);exact Z24c hc0 hcb vs ihv (.node fra' csa' wa' esa Oa' hsta hka) hb hra hrb
  | @node Ob frc csc wb fr' cs' w' es O' hst hk ih =>
   intro w hra hrb;refine Z1vx hc0 (awake_of (.inl rfl)) (awake_of (.inl rfl)) (.inl rfl) Z1vd Z1vd (fun _ => m0 (.node fr' cs' w' es O' hst hk) hra hrb) (fun _ => ?_);intro d gs sl t q s r tm h0 hgc hL hI;obtain ⟨hgo, hgr, hev⟩ := hst (w.at d) (hrb.trans (Rl.at w d));exact Z249 hc0 hcb Z1vd h0 hgc hL hI hgo hgr hev fun hrl => ih _ (hrb.trans (Rl.at w d)) _ ((hra.trans (Rl.at w d)).trans hrl) (Rl.refl _)
theorem both (hc0 : c ≠ 0) (hcb : cb < N) : ∀ vs, Both P N cb c z zc X vs
 | [] => Z21b hc0 hcb [] fun v vs' h => by cases h
 | v :: vs => Z21b hc0 hcb (v :: vs) fun v' vs' h => by cases h; exact both hc0 hcb vs
end
end Go.Abs

namespace Go.Abs
open Go Go.Conc
open Go.ConcN (sumTo upd sumTo_upd upd_ne upd_same)
theorem Runs.spawn {P : Program} {N cb : Nat} {z zc : Value} {vs : List Value} {X : Frame -> List Frame -> World -> Prop} {fr : Frame} {cs : List Frame} {w : World} {s r : Nat} {tm : Bool}
  (hN : N <= w.heap.size) (hcb : cb < N) (hc : w.heap[cb]? = some (.chan 0 #[] false s r tm))
  (h : ∀ d, ∃ fr' cs' frc csc, stepG P true (G fr cs) (w.at d) = .spawn (G fr' cs') (G frc csc) (w.at d) /\ Gx P true N cb (Z1w1 P N cb z X vs) (fun _ => False) fr' cs' (w.at d) /\
   Gx P false N cb (Z1w5 P N cb zc vs) (fun _ => False) frc csc (w.at d)) : Runs P X fr cs w := by
 intro gs sl t ⟨h0, ⟨q, hL⟩, ⟨B, hP⟩⟩;have key : ∀ (M : Nat) (gs : Array Goroutine) (w₁ : World) (sl : Option (Nat × Nat)) (t : Trace) (q : Nat -> Nat), sumTo gs.size q = M -> AtRel w w₁ -> gs[0]? = some (G fr cs) -> Leavers P t gs q -> (∃ B, Past Z1x4 B t) -> Ends P X gs w₁ sl t := by
  intro M
  induction M using Nat.strongRecOn with
  | _ M ih =>
   intro gs w₁ sl t q hM hw h0 hL ⟨B, hP⟩;have haw : ∀ g ∈ gs, awake g := by
    intro g hg;obtain ⟨i, hi, rfl⟩ := Array.mem_iff_getElem.1 hg;rcases Nat.eq_zero_or_pos i with rfl | hpos
    ·have : gs[0] = G fr cs := by simpa [Array.getElem?_eq_getElem hi] using h0
     rw [this]; exact awake_of (.inl rfl)
    ·exact awake_of ((hL.old i _ hpos (Array.getElem?_eq_getElem hi)).status.elim .inl fun x => .inr (.inr x))
   obtain ⟨i, g, d, sl', hi, hg, hst⟩ := crowd_pick (P := P) (w := w₁) (sl := sl) haw ⟨0, _, h0, rfl⟩;have hlt : i < gs.size := (Array.getElem?_eq_some_iff.1 hi).1;obtain ⟨d0, rfl⟩ := hw;rcases Nat.eq_zero_or_pos i with rfl | hpos
   ·obtain rfl : g = G fr cs := by rw [h0] at hi; exact (Option.some.inj hi).symm
    obtain ⟨fr', cs', frc, csc, hgo, hna, hnb⟩ := h d;have hrun := runT_crowd_spawn (P := P) (sl := sl') (i := 0) hi (show stepG P (0 == 0) (G fr cs) ((w.at d0).at d) = _ from hgo);have hne : gs.size ≠ 0 := by omega
    have e : ((MemOp.ofEvents 0 (G fr cs).frame.fn (G fr cs).frame.place #[]).push { g := 0, fn := (G fr cs).frame.fn, pos := (G fr cs).frame.place, act := .go gs.size } |>.push { g := gs.size, fn := (G frc csc).frame.fn, pos := (G fr cs).frame.place, act := .start }) =
      #[{ g := 0, fn := (G fr cs).frame.fn, pos := (G fr cs).frame.place, act := .go gs.size }, { g := gs.size, fn := (G frc csc).frame.fn, pos := (G fr cs).frame.place, act := .start }] := rfl
    rw [e] at hrun;have hd : ∀ g, Deaf (t ++ #[({ g := 0, fn := (G fr cs).frame.fn, pos := (G fr cs).frame.place, act := .go gs.size } : MemOp), { g := gs.size, fn := (G frc csc).frame.fn, pos := (G fr cs).frame.place, act := .start }]) g = Deaf t g := fun g => Deaf_quiet fun op hop d => by
     simp only [List.mem_toArray, List.mem_cons, List.not_mem_nil, or_false] at hop;rcases hop with rfl | rfl <;> rfl
    refine Ends.step (hst.trans hrun) (both (c := gs.size) hne hcb vs (fun _ => False) (fun _ => False) fr' frc cs' csc _ _ (w.at d) hna hnb (Rl.refl _) (Rl.refl _) d _ sl' _ q s r tm ?_ ?_ ⟨fun j x hj hjc hx => ?_, fun j hj => ?_⟩
     ⟨hc, PhT.start hP (hL.above _ (Nat.le_refl _)) hne _ _ _, ⟨hN, fun _ h => h.elim, fun _ h => h.elim, fun _ h => h.elim⟩⟩)
    ·rw [Array.getElem?_push, if_neg (by simp; omega)]; simp [hlt]
    ·rw [Array.getElem?_push, if_pos (by simp)]
    ·rw [Array.getElem?_push, if_neg (by simp; omega), Array.getElem?_setIfInBounds_ne (by omega)] at hx;rw [hd];exact hL.old j x hj hx
    ·rw [hd];exact hL.above j (by simp at hj; omega)
   ·obtain ⟨k, g', es, hqi, hrun, hm, hq'⟩ := Z1wy (P := P) (w := (w.at d0).at d) (sl := sl') (q := q) (t := t) (by omega) hi hg (hL.old i g hpos hi);have hsum := Z1z9 (q := q) hlt hqi;refine Ends.step (hst.trans hrun) (ih (sumTo gs.size (upd q i k)) (by omega) _ _ sl' _ (upd q i k) (by simp) ⟨d, rfl⟩ ?_ ⟨fun j x hj hx => ?_, fun j hj => ?_⟩ ⟨B, hP.mute (by omega) hm⟩)
    ·rw [Z1v5 (by omega), h0]; simp [woken_run (show (G fr cs).status = .running from rfl)]
    ·by_cases hji : i = j
     ·subst hji;rw [Array.getElem?_setIfInBounds_self_of_lt (by simpa using hlt)] at hx;obtain rfl := Option.some.inj hx;rw [upd_same, Deaf_own];exact hq'
     ·rw [Z1v5 hji] at hx;obtain ⟨y, hy, rfl⟩ := Option.map_eq_some_iff.1 hx;have hqj := hL.old j y hj hy;rw [woken_quitsD hqj, upd_ne q k (Ne.symm hji), Deaf_other t hji _ Z1we];exact hqj
    ·rw [Deaf_other t (g' := i) (by simp at hj; omega) _ Z1we];exact hL.above j (by simpa using hj)
 exact key _ gs w sl t q rfl (atRel_refl w) h0 hL ⟨B, hP⟩
end Go.Abs

/- Part TxAD of the proofs about the benches of the accordion maker: see the last text of the claim for what is proved. -/
import Derived.Conc.LeavingOf
import Derived.CallsIn
import Derived.Conc.Listed
import Derived.Test.YtggilmnhgjofiaaGreatTxAC
set_option linter.unusedVariables false
set_option linter.unusedSimpArgs false
set_option linter.unnecessarySimpa false
set_option linter.constructorNameAsVariable false

namespace Go.Abs
open Go Go.Conc
open Go.ConcN (sumTo upd sumTo_upd upd_ne upd_same)
def Z1x4 : Loc -> Prop := fun _ => False
def Co (P : Program) (fr : Frame) (cs : List Frame) (gs : Array Goroutine) (t : Trace) : Prop :=
 gs[0]? = some (G fr cs) /\ (∃ q, Leavers P t gs q) /\ ∃ B, Past Z1x4 B t
def Runs (P : Program) (X : Frame -> List Frame -> World -> Prop) (fr : Frame) (cs : List Frame) (w : World) : Prop :=
 ∀ (gs : Array Goroutine) (sl : Option (Nat × Nat)) (t : Trace), Co P fr cs gs t ->
  ∃ (N : Nat) (gs' : Array Goroutine) (fr' : Frame) (cs' : List Frame) (w' : World) (sl' : Option (Nat × Nat)) (t' : Trace),
   runNT P N (crowd gs w sl) t = (.next (crowd gs' w' sl'), t') /\ Co P fr' cs' gs' t' /\ X fr' cs' w'
section
variable {P : Program} {X Y : Frame -> List Frame -> World -> Prop} {fr : Frame} {cs : List Frame} {w : World}
theorem Runs.here (h : X fr cs w) : Runs P X fr cs w := fun gs sl t hc => ⟨0, gs, fr, cs, w, sl, t, rfl, hc, h⟩
theorem Runs.trans (h : Runs P X fr cs w) (hx : ∀ fr' cs' w', X fr' cs' w' -> Runs P Y fr' cs' w') : Runs P Y fr cs w := fun gs sl t hc => by
 obtain ⟨N, gs', fr', cs', w', sl', t', h1, h2, h3⟩ := h gs sl t hc;obtain ⟨M, gs'', fr'', cs'', w'', sl'', t'', k1, k2, k3⟩ := hx _ _ _ h3 gs' sl' t' h2;exact ⟨N + M, gs'', fr'', cs'', w'', sl'', t'', by rw [runNT_add, h1]; exact k1, k2, k3⟩
theorem Runs.mono (h : Runs P X fr cs w) (hx : ∀ fr' cs' w', X fr' cs' w' -> Y fr' cs' w') : Runs P Y fr cs w := h.trans fun _ _ _ k => .here (hx _ _ _ k)
theorem Z20w (x : MemAct) : ∃ B, x.low B := by
 cases x with
 | access e =>
  obtain ⟨loc, wr, sy⟩ := e
  cases loc with
  | cell a => exact ⟨a.block + 1, Nat.lt_succ_self _⟩
  | obj r => exact ⟨r + 1, Nat.lt_succ_self _⟩
  | _ => exact ⟨0, trivial⟩
 | mark m => cases m <;> first | exact ⟨_, Nat.lt_succ_self _⟩ | exact ⟨0, trivial⟩
 | go c => exact ⟨0, trivial⟩
 | start => exact ⟨0, trivial⟩
 | _ => exact ⟨_, Nat.lt_succ_self _⟩
theorem Z22o : ∀ (l : List Event), ∃ B, ∀ e ∈ l, (MemAct.ofEvent e).low B
 | [] => ⟨0, fun e h => by cases h⟩
 | e :: l => by
  obtain ⟨B, hB⟩ := Z22o l;obtain ⟨C, hC⟩ := Z20w (MemAct.ofEvent e);exact ⟨B + C, fun x hx => by
   rcases List.mem_cons.1 hx with rfl | hx
   ·exact MemAct.low_mono (Nat.le_add_left _ _) hC
   ·exact MemAct.low_mono (Nat.le_add_right _ _) (hB x hx)⟩
theorem Past.quiet {t : Trace} {B : Nat} (h : Past Z1x4 B t) {fn : FuncId} {pos : String} {es : Array Event} (hes : Z1uv es) : ∃ B', Past Z1x4 B' (t ++ MemOp.ofEvents 0 fn pos es) := by
 obtain ⟨C, hC⟩ := Z22o es.toList;exact ⟨B + C, Past.own (h.mono (Nat.le_add_right _ _)) fun e he => ⟨fun _ _ hf => hf.elim, (hes e he).1, (hes e he).2, MemAct.low_mono (Nat.le_add_left _ _) (hC e (by simpa using he))⟩⟩
theorem Runs.step (h : ∀ d, ∃ fr' cs' w' es, stepG P true (G fr cs) (w.at d) = .go (G fr' cs') w' es /\ Z1uv es /\ Runs P X fr' cs' w') : Runs P X fr cs w := by
 intro gs sl t ⟨h0, ⟨q, hL⟩, ⟨B, hP⟩⟩;have key : ∀ (M : Nat) (gs : Array Goroutine) (w₁ : World) (sl : Option (Nat × Nat)) (t : Trace) (q : Nat -> Nat), sumTo gs.size q = M -> AtRel w w₁ -> gs[0]? = some (G fr cs) -> Leavers P t gs q -> (∃ B, Past Z1x4 B t) ->
   ∃ (N : Nat) (gs' : Array Goroutine) (fr' : Frame) (cs' : List Frame) (w' : World) (sl' : Option (Nat × Nat)) (t' : Trace),
    runNT P N (crowd gs w₁ sl) t = (.next (crowd gs' w' sl'), t') /\ Co P fr' cs' gs' t' /\ X fr' cs' w' := by
  intro M
  induction M using Nat.strongRecOn with
  | _ M ih =>
   intro gs w₁ sl t q hM hw h0 hL ⟨B, hP⟩;have haw : ∀ g ∈ gs, awake g := by
    intro g hg;obtain ⟨i, hi, rfl⟩ := Array.mem_iff_getElem.1 hg;rcases Nat.eq_zero_or_pos i with rfl | hpos
    ·have : gs[0] = G fr cs := by simpa [Array.getElem?_eq_getElem hi] using h0
     rw [this]; exact awake_of (.inl rfl)
    ·exact awake_of ((hL.old i _ hpos (Array.getElem?_eq_getElem hi)).status.elim .inl fun x => .inr (.inr x))
   obtain ⟨i, g, d, sl', hi, hg, hst⟩ := crowd_pick (P := P) (w := w₁) (sl := sl) haw ⟨0, _, h0, rfl⟩;rcases Nat.eq_zero_or_pos i with rfl | hpos
   ·obtain rfl : g = G fr cs := by rw [h0] at hi; exact (Option.some.inj hi).symm
    obtain ⟨d0, rfl⟩ := hw;obtain ⟨fr', cs', w', es, hgo, hq, hr⟩ := h d;have hrunT := runT_crowd_go (P := P) (sl := sl') (i := 0) hi (show stepG P (0 == 0) (G fr cs) ((w.at d0).at d) = _ from hgo);have hlt : 0 < gs.size := (Array.getElem?_eq_some_iff.1 h0).1;obtain ⟨N, gs', fr'', cs'', w'', sl'', t', k1, k2, k3⟩ := hr ((gs.map (woken P (G fr cs) (G fr' cs') w')).setIfInBounds 0 (G fr' cs')) sl' (t ++ MemOp.ofEvents 0 (G fr cs).frame.fn (G fr cs).frame.place es)
     ⟨by simp [hlt], ⟨q, fun j x hj hx => by
      have hne : 0 ≠ j := by omega
      rw [Array.getElem?_setIfInBounds_ne hne, Array.getElem?_map] at hx
      obtain ⟨y, hy, rfl⟩ := Option.map_eq_some_iff.1 hx
      have hq := hL.old j y hj hy
      rw [woken_quitsD hq, Deaf_other t (by omega) _ (fun op hop => by obtain ⟨e, _, rfl⟩ := Go.Conc.mem_ofEvents hop; rfl)]
      exact hq, fun j hj => by
      rw [Deaf_other t (g' := 0) (by simp at hj; omega) _ (fun op hop => by obtain ⟨e, _, rfl⟩ := Go.Conc.mem_ofEvents hop; rfl)]
      exact hL.above j (by simpa using hj)⟩, Past.quiet hP hq⟩
    exact ⟨N + 1, gs', fr'', cs'', w'', sl'', t', by simp only [runNT, hst, hrunT]; exact k1, k2, k3⟩
   ·have hq := hL.old i g hpos hi;have hi0 : (i == 0) = false := by simp; omega
    have hlt : i < gs.size := (Array.getElem?_eq_some_iff.1 hi).1
    cases hqi : q i with
    | zero => rw [hqi] at hq; rw [hq.1] at hg; cases hg
    | succ k =>
     rw [hqi] at hq;rcases hq with ⟨hf, _⟩ | ⟨_, g', es, hm, hstp, hq'⟩
     ·rw [hf] at hg; cases hg
     have hrunT := runT_crowd_go (P := P) (sl := sl') (i := i) hi (by rw [hi0]; exact hstp (w₁.at d));have hsz : ((gs.map (woken P g g' (w₁.at d))).setIfInBounds i g').size = gs.size := by simp
     have hsum : sumTo gs.size (upd q i k) + (k + 1) = sumTo gs.size q + k := by
      have := sumTo_upd q k id hlt;simpa [hqi] using this
     obtain ⟨N, gs', fr'', cs'', w'', sl'', t', k1, k2, k3⟩ := ih (sumTo gs.size (upd q i k)) (by omega) ((gs.map (woken P g g' (w₁.at d))).setIfInBounds i g') (w₁.at d) sl' (t ++ MemOp.ofEvents i g.frame.fn g.frame.place es) (upd q i k) (by rw [hsz])
      (atRel_trans _ _ _ hw ⟨d, rfl⟩) (by
       have hne : i ≠ 0 := by omega
       rw [Array.getElem?_setIfInBounds_ne hne, Array.getElem?_map, h0]
       simp [woken_run (show (G fr cs).status = .running from rfl)])
      ⟨fun j x hj hx => by
       by_cases hji : i = j
       ·subst hji
        rw [Array.getElem?_setIfInBounds_self_of_lt (by simpa using hlt)] at hx
        obtain rfl := Option.some.inj hx
        rw [upd_same, Deaf_own]
        exact hq'
       ·rw [Array.getElem?_setIfInBounds_ne hji, Array.getElem?_map] at hx
        obtain ⟨y, hy, rfl⟩ := Option.map_eq_some_iff.1 hx
        have hqj := hL.old j y hj hy
        rw [woken_quitsD hqj, upd_ne q k (Ne.symm hji), Deaf_other t hji _ (fun op hop => by obtain ⟨e, _, rfl⟩ := Go.Conc.mem_ofEvents hop; rfl)]
        exact hqj, fun j hj => by
       rw [Deaf_other t (g' := i) (by simp at hj; omega) _ (fun op hop => by obtain ⟨e, _, rfl⟩ := Go.Conc.mem_ofEvents hop; rfl)]
       exact hL.above j (by simpa using hj)⟩ ⟨B, hP.mute (by omega) hm⟩
     exact ⟨N + 1, gs', fr'', cs'', w'', sl'', t', by simp only [runNT, hst, hrunT]; exact k1, k2, k3⟩
 exact key _ gs w sl t q rfl (atRel_refl w) h0 hL ⟨B, hP⟩
theorem Runs.stepAt {d0 : Nat} (h : ∀ d, ∃ fr' cs' w' es, stepG P true (G fr cs) (w.at d) = .go (G fr' cs') w' es /\ Z1uv es /\ Runs P X fr' cs' w') : Runs P X fr cs (w.at d0) :=
 Runs.step (w := w.at d0) h
theorem Runs.calm {fr' : Frame} {cs' : List Frame} (h : ∀ w, stepG P true (G fr cs) w = .go (G fr' cs') w) (hr : ∀ d, Runs P X fr' cs' (w.at d)) : Runs P X fr cs w :=
 .step fun d => ⟨fr', cs', w.at d, #[], h _, .nil, hr d⟩
end
end Go.Abs

namespace Go.Abs
open Go Go.Conc
def ArrF (b : Frame) (k : List Item) : Exit -> Act -> Frame -> Prop
 | .normal, a, fr => fr = b.atR a k
 | .exit id, a, fr => ∃ k₁, exitTo id k₁ = exitTo id k /\ fr = b.atR a (.code (.exit id) :: k₁)
 | .goto l, a, fr => ∃ k₁, gotoIn l k₁ = gotoIn l k /\ fr = b.atR a (.code (.goto l) :: k₁)
 | .ret, a, fr => ∃ k₁, fr = b.atR a (.code .ret :: k₁)
 | .panic ch, a, fr => ∃ k₁, fr = { b.atR a k₁ with mode := .panicking ch }
 | .outgrown, _, _ => False
def Arr (b : Frame) (k : List Item) (cs : List Frame) (Q : Exit -> Act -> World -> Prop) (fr' : Frame) (cs' : List Frame) (w' : World) : Prop :=
 cs' = cs /\ ∃ e a' w₀, Q e a' w₀ /\ AtRel w₀ w' /\ ArrF b k e a' fr'
def wpZ (r : Option Nat) (P : Program) (c : Code) (Q : Exit -> Act -> World -> Prop) (a : Act) (w : World) : Prop :=
 ∀ (d : Nat) (b : Frame) (k : List Item) (cs : List Frame), b.roundOf = r -> Runs P (Arr b k cs Q) (b.atR a (.code c :: k)) cs (w.at d)
section
variable {P : Program} {main : Bool} {b : Frame} {a : Act} {k : List Item} {cs : List Frame} {w : World}
theorem Z22p : stepG P main (G (b.atR a (.code .skip :: k)) cs) w = .go (G (b.atR a k) cs) w := by simp [G, stepG, stepG.exec, Frame.atR]
theorem Z23y {l : Nat} : stepG P main (G (b.atR a (.code (.label l) :: k)) cs) w = .go (G (b.atR a k) cs) w := by simp [G, stepG, stepG.exec, Frame.atR]
theorem Z1yy {id : Nat} : stepG P main (G (b.atR a (.inBlock id :: k)) cs) w = .go (G (b.atR a k) cs) w := by simp [G, stepG, stepG.exec, Frame.atR]
theorem Z21x {c : Code} : stepG P main (G (b.atR a (.inScope c :: k)) cs) w = .go (G (b.atR a k) cs) w := by simp [G, stepG, stepG.exec, Frame.atR]
theorem Z21y {x y : Code} : stepG P main (G (b.atR a (.code (.seq x y) :: k)) cs) w = .go (G (b.atR a (.code x :: .code y :: k)) cs) w := by simp [G, stepG, stepG.exec, Frame.atR]
theorem Z22q {c : Operand} {x y : Code} {t : Bool} (h : a.eval c = .bool t) : stepG P main (G (b.atR a (.code (.cond c x y) :: k)) cs) w = .go (G (b.atR a (.code (if t then x else y) :: k)) cs) w := by
 have := congrFun (Frame.eval_atR b a (.code (.cond c x y) :: k)) c;simp only [Frame.atR] at this;simp [G, stepG, stepG.exec, Frame.atR, this, h]
theorem Z20x {id : Nat} {c : Code} : stepG P main (G (b.atR a (.code (.block id c) :: k)) cs) w = .go (G (b.atR a (.code c :: .inBlock id :: k)) cs) w := by simp [G, stepG, stepG.exec, Frame.atR]
theorem Z23z {c : Code} : stepG P main (G (b.atR a (.code (.scope c) :: k)) cs) w = .go (G (b.atR a (.code c :: .inScope c :: k)) cs) w := by simp [G, stepG, stepG.exec, Frame.atR]
theorem Z20g {c : Code} : stepG P main (G (b.atR a (.code (.loop c) :: k)) cs) w = .go (G (b.atR a (.code c :: .inLoop c :: k)) cs) w := by simp [G, stepG, stepG.exec, Frame.atR]
theorem Z1y7 {c : Code} : stepG P main (G (b.atR a (.inLoop c :: k)) cs) w = .go (G (b.atR a (.code c :: .inLoop c :: k)) cs) w := by simp [G, stepG, stepG.exec, Frame.atR]
theorem Z20h {id : Nat} {k' : List Item} (h : exitTo id k = some k') : stepG P main (G (b.atR a (.code (.exit id) :: k)) cs) w = .go (G (b.atR a k') cs) w := by simp [G, stepG, stepG.exec, Frame.atR, h]
theorem Z21z (hb : b.roundOf = none) : stepG P main (G (b.atR a (.code .ret :: k)) cs) w = .go (G { b.atR a (.code .ret :: k) with mode := .returning } cs) w := by simp [G, stepG, stepG.exec, Frame.atR, hb]
theorem Z240 (hb : b.roundOf = none) : stepG P main (G (b.atR a []) cs) w = .go (G { b.atR a [] with mode := .returning } cs) w := by simp [G, stepG, stepG.exec, Frame.atR, hb]
theorem Z1y8 {id : Nat} {ops : Array Oper} : stepG P main (G (b.atR a (.code (.region id ops false) :: k)) cs) w = .go (G (b.atR a (.inRegion ops (List.range ops.size) :: k)) cs) w := by simp [G, stepG, stepG.exec, Frame.atR]
theorem Z1x5 {id : Nat} {ops : Array Oper} : stepG P main (G (b.atR a (.code (.region id ops true) :: k)) cs) w =
  .go (G (b.atR a (.inRegion ops (Region.schedule (P.follows .mixedOrders) ops (w.tape w.drawn (.order b.fn id))) :: k)) cs) { w with drawn := w.drawn + 1 } := by
 simp [G, stepG, stepG.exec, Frame.atR, choose, Sem.run, Question.forced, Question.cut]
theorem Z1vj {ops : Array Oper} : stepG P main (G (b.atR a (.inRegion ops [] :: k)) cs) w = .go (G (b.atR a k) cs) w := by simp [G, stepG, stepG.exec, Frame.atR]
theorem Z1ws {ops : Array Oper} {i : Nat} {rest : List Nat} (h : ((ops[i]?).map (Region.wanted · (yielded ops a.tmps))).getD false = false) :
  stepG P main (G (b.atR a (.inRegion ops (i :: rest) :: k)) cs) w = .go (G (b.atR (a.put ((ops[i]?).bind (·.dst)) undef) (.inRegion ops rest :: k)) cs) w := by
 rw [<- Frame.finish_atR];have h' := h;simp only [Frame.atR] at *;simp [G, stepG, stepG.exec, h']
end
section
variable {P : Program} {r : Option Nat} {Q : Exit -> Act -> World -> Prop} {a : Act} {w : World}
theorem Arr.mono {b : Frame} {k : List Item} {cs : List Frame} {Q' : Exit -> Act -> World -> Prop} {fr' : Frame} {cs' : List Frame} {w' : World} (h : Arr b k cs Q fr' cs' w') (hq : ∀ e a w, Q e a w -> Q' e a w) : Arr b k cs Q' fr' cs' w' :=
 let ⟨h1, e, a', w₀, h2, h3, h4⟩ := h; ⟨h1, e, a', w₀, hq _ _ _ h2, h3, h4⟩
theorem Z1us {c : Code} {Q' : Exit -> Act -> World -> Prop} (h : wpZ r P c Q a w) (hq : ∀ e a w, Q e a w -> Q' e a w) : wpZ r P c Q' a w :=
 fun d b k cs hb => (h d b k cs hb).mono fun _ _ _ x => x.mono hq
theorem Z1tw {b : Frame} {k : List Item} {cs : List Frame} {e : Exit} {a' : Act} {w₀ : World} {fr : Frame} {d : Nat} (hq : Q e a' w₀) (hf : ArrF b k e a' fr) : Runs P (Arr b k cs Q) fr cs (w₀.at d) :=
 .here ⟨rfl, e, a', w₀, hq, ⟨d, rfl⟩, hf⟩
theorem Z241 (h : Q .normal a w) : wpZ r P .skip Q a w := fun _ _ _ _ _ => .calm (fun _ => Z22p) fun _ => Z1tw (e := .normal) (w₀ := w) h rfl
theorem Z23a {l : Nat} (h : Q .normal a w) : wpZ r P (.label l) Q a w := fun _ _ _ _ _ => .calm (fun _ => Z23y) fun _ => Z1tw (e := .normal) (w₀ := w) h rfl
theorem Z22r (h : Q .ret a w) : wpZ r P .ret Q a w := fun _ _ k _ _ => Z1tw h ⟨k, rfl⟩
theorem Z20y {id : Nat} (h : Q (.exit id) a w) : wpZ r P (.exit id) Q a w := fun _ _ k _ _ => Z1tw h ⟨k, rfl, rfl⟩
theorem Z242 {l : Nat} (h : Q (.goto l) a w) : wpZ r P (.goto l) Q a w := fun _ _ k _ _ => Z1tw h ⟨k, rfl, rfl⟩
theorem ArrF.pass {b : Frame} {x : Item} {k : List Item} {e : Exit} {fr : Frame} (hx : x.plain = true) (he : e ≠ .normal) (h : ArrF b (x :: k) e a fr) : ArrF b k e a fr := by
 cases e with
 | normal => exact absurd rfl he
 | exit id => obtain ⟨k₁, h1, h2⟩ := h; exact ⟨k₁, h1.trans (exitTo_plain hx id k), h2⟩
 | goto l => obtain ⟨k₁, h1, h2⟩ := h; exact ⟨k₁, h1.trans (gotoIn_plain hx l k), h2⟩
 | ret => exact h
 | panic ch => exact h
 | outgrown => exact h
theorem Z25h {x y : Code} (h : wpZ r P x (Exit.then (wpZ r P y Q) Q) a w) : wpZ r P (.seq x y) Q a w := by
 intro d b k cs hb;refine .calm (fun _ => Z21y) fun d' => ?_;refine (h d' b (.code y :: k) cs hb).trans fun fr' cs' w' ⟨hc, e, a', w₀, hq, ⟨d2, hw⟩, hf⟩ => ?_;subst hc hw
 cases e with
 | normal => obtain rfl : fr' = _ := hf; exact hq d2 b k _ hb
 | exit id => exact Z1tw (e := .exit id) hq (ArrF.pass (x := .code y) rfl (by simp) hf)
 | goto l => exact Z1tw (e := .goto l) hq (ArrF.pass (x := .code y) rfl (by simp) hf)
 | ret => exact Z1tw (e := .ret) hq hf
 | panic ch => exact Z1tw (e := .panic ch) hq hf
 | outgrown => exact hf.elim
theorem Z20z {c : Operand} {x y : Code} {t : Bool} (hc : a.eval c = .bool t) (h : wpZ r P (if t then x else y) Q a w) : wpZ r P (.cond c x y) Q a w :=
 fun _ b k cs hb => .calm (fun _ => Z22q hc) fun d' => h d' b k cs hb
theorem Z1yz {c : Operand} {x y : Code} {t : Bool} (hc : a.eval c = .bool t) (ht : t = true -> wpZ r P x Q a w) (hf : t = false -> wpZ r P y Q a w) : wpZ r P (.cond c x y) Q a w := by
 cases t
 ·exact Z20z hc (hf rfl)
 ·exact Z20z hc (ht rfl)
theorem Z23b {id : Nat} {c : Code} (h : wpZ r P c (Exit.inBlock id Q) a w) : wpZ r P (.block id c) Q a w := by
 intro d b k cs hb;refine .calm (fun _ => Z20x) fun d' => ?_;refine (h d' b (.inBlock id :: k) cs hb).trans fun fr' cs' w' ⟨hc, e, a', w₀, hq, ⟨d2, hw⟩, hf⟩ => ?_;subst hc hw
 cases e with
 | normal => obtain rfl : fr' = _ := hf; exact .calm (fun _ => Z1yy) fun d3 => Z1tw (e := .normal) (w₀ := w₀) hq rfl
 | exit id' =>
  obtain ⟨k₁, h1, rfl⟩ := hf
  by_cases hid : id' = id
  ·subst hid;simp only [Exit.inBlock, if_true] at hq;have h2 : exitTo id' k₁ = some k := by rw [h1]; simp [exitTo]
   exact .calm (fun _ => Z20h h2) fun d3 => Z1tw (e := .normal) (w₀ := w₀) hq rfl
  ·simp only [Exit.inBlock, hid, if_false] at hq;have h2 : exitTo id' (.inBlock id :: k) = exitTo id' k := by
    have : (id == id') = false := by simp; exact fun h => hid h.symm
    simp [exitTo, this]
   exact Z1tw (e := .exit id') hq ⟨k₁, h1.trans h2, rfl⟩
 | goto l =>
  obtain ⟨k₁, h1, rfl⟩ := hf;exact Z1tw (e := .goto l) hq ⟨k₁, h1.trans (by simp [gotoIn]), rfl⟩
 | ret => exact Z1tw (e := .ret) hq hf
 | panic ch => exact Z1tw (e := .panic ch) hq hf
 | outgrown => exact hf.elim
def Zus (Q : Exit -> Act -> World -> Prop) : Exit -> Act -> World -> Prop
 | .goto _, _, _ => False
 | e, a, w => Q e a w
theorem Z23c {c : Code} (h : wpZ r P c (Zus Q) a w) : wpZ r P (.scope c) Q a w := by
 intro d b k cs hb;refine .calm (fun _ => Z23z) fun d' => ?_;refine (h d' b (.inScope c :: k) cs hb).trans fun fr' cs' w' ⟨hc, e, a', w₀, hq, ⟨d2, hw⟩, hf⟩ => ?_;subst hc hw
 cases e with
 | normal => obtain rfl : fr' = _ := hf; exact .calm (fun _ => Z21x) fun d3 => Z1tw (e := .normal) (w₀ := w₀) hq rfl
 | exit id =>
  obtain ⟨k₁, h1, rfl⟩ := hf;exact Z1tw (e := .exit id) hq ⟨k₁, h1.trans (by simp [exitTo]), rfl⟩
 | goto l => exact hq.elim
 | ret => exact Z1tw (e := .ret) hq hf
 | panic ch => exact Z1tw (e := .panic ch) hq hf
 | outgrown => exact hf.elim
theorem Z243 {c : Code} (I : Act -> World -> Prop) (μ : Act -> World -> Nat) (h₀ : I a w)
  (round : ∀ a w, I a w -> wpZ r P c (Exit.then (fun a' w' => I a' w' /\ μ a' w' < μ a w) Q) a w) : wpZ r P (.loop c) Q a w := by
 intro d b k cs hb;have key : ∀ (j : Nat) (a : Act) (w : World) (d : Nat), μ a w = j -> I a w -> Runs P (Arr b k cs Q) (b.atR a (.code c :: .inLoop c :: k)) cs (w.at d) := by
  intro j
  induction j using Nat.strongRecOn with
  | _ j ih =>
   intro a w d hn hI;refine (round a w hI d b (.inLoop c :: k) cs hb).trans fun fr' cs' w' ⟨hc, e, a', w₀, hq, ⟨d2, hw⟩, hf⟩ => ?_;subst hc hw
   cases e with
   | normal =>
    obtain rfl : fr' = _ := hf;exact .calm (fun _ => Z1y7) fun d3 => ih (μ a' w₀) (hn ▸ hq.2) a' w₀ d3 rfl hq.1
   | exit id => exact Z1tw (e := .exit id) hq (ArrF.pass (x := .inLoop c) rfl (by simp) hf)
   | goto l => exact Z1tw (e := .goto l) hq (ArrF.pass (x := .inLoop c) rfl (by simp) hf)
   | ret => exact Z1tw (e := .ret) hq hf
   | panic ch => exact Z1tw (e := .panic ch) hq hf
   | outgrown => exact hf.elim
 exact .calm (fun _ => Z20g) fun d' => key _ a w d' rfl h₀
def Z1xc (r : Option Nat) (P : Program) (c : Code) (Q : Exit -> Act -> World -> Prop) : Nat -> Act -> World -> Prop
 | 0, _, _ => False
 | m + 1, a, w => wpZ r P c (Exit.then (Z1xc r P c Q m) Q) a w
theorem Z1yn {c : Code} (m : Nat) (h : Z1xc r P c Q m a w) : wpZ r P (.loop c) Q a w := by
 intro d b k cs hb;have key : ∀ (m : Nat) (a : Act) (w : World) (d : Nat), Z1xc r P c Q m a w -> Runs P (Arr b k cs Q) (b.atR a (.code c :: .inLoop c :: k)) cs (w.at d) := by
  intro m
  induction m with
  | zero => intro a w d h; exact h.elim
  | succ m ih =>
   intro a w d h;refine (h d b (.inLoop c :: k) cs hb).trans fun fr' cs' w' ⟨hc, e, a', w₀, hq, ⟨d2, hw⟩, hf⟩ => ?_;subst hc hw
   cases e with
   | normal =>
    obtain rfl : fr' = _ := hf;exact .calm (fun _ => Z1y7) fun d3 => ih a' w₀ d3 hq
   | exit id => exact Z1tw (e := .exit id) hq (ArrF.pass (x := .inLoop c) rfl (by simp) hf)
   | goto l => exact Z1tw (e := .goto l) hq (ArrF.pass (x := .inLoop c) rfl (by simp) hf)
   | ret => exact Z1tw (e := .ret) hq hf
   | panic ch => exact Z1tw (e := .panic ch) hq hf
   | outgrown => exact hf.elim
 exact .calm (fun _ => Z20g) fun d' => key m a w d' h
end
end Go.Abs

set_option linter.unusedSimpArgs false
namespace Go.Abs
open Go Go.Conc
theorem Z1up {P : Program} {fn : FuncId} {es : Array Event} (h : Z1uv es) : Z1uv (seen P fn es) := fun e he => h e (mem_seen he)
section
variable {P : Program}
theorem Z1vs (l : Nat) : Z1q0 (Instr.getLoop l) := Z1q0.bind (Z1qi _) fun o => by split <;> exact trivial
theorem Z1yo (fn : FuncId) (tmps : Array Value) (ps : Array Tmp) (as body : Code) (ro : Option Nat) : Z1q0 (Instr.enterLoop fn tmps ps as body ro) := by
 unfold Instr.enterLoop
 split
 ·exact Z1q0.bind (Z1vs _) fun _ => Z1q0.bind (Z1r5 _) fun _ => Z1q0.bind (Z1qh _) fun _ => trivial
 ·exact Z1q0.bind (Z1qh _) fun _ => Z1q0.bind (Z1r5 _) fun _ => Z1q0.bind (Z1qh _) fun _ => trivial
theorem Z210 (l : Nat) (args : Array Value) : Z1q0 (Instr.yield l args) := Z1q0.bind (Z1vs _) fun _ => Z1rd (Z1q0.bind trivial fun _ => trivial) trivial
theorem Z1y9 (l : Nat) : Z1q0 (Instr.beginRound l) := Z1q0.bind (Z1vs _) fun _ => Z1q0.bind (Z1qg _ _) fun _ => by split <;> first | exact trivial | exact Z1px _
theorem Z1vy (l : Nat) (j : Option Code) : Z1q0 (Instr.endRound l j) := Z1q0.bind (Z1vs _) fun _ => Z1q0.bind (Z1qg _ _) fun _ => trivial
theorem Z1zq (l : Nat) : Z1q0 (Instr.endLoop l) := Z1q0.bind (Z1vs _) fun _ => Z1rd (Z1q0.bind (Z1px _) fun _ => Z1q0.bind (Z1qg _ _) fun _ => trivial) (Z1q0.bind (Z1qg _ _) fun _ => trivial)
theorem Z1wb (b : Nat) : Z1q0 (Instr.takeDeferred b) := Z1q0.bind (Z1qi _) fun o => by
 split
 ·exact Z1q0.bind (Z1qg _ _) fun _ => trivial
 ·exact trivial
theorem Z1zr (fn : Func) (tmps : Array Value) : Z1q0 (results fn tmps) := by
 unfold results;refine Z1q0.bind (Z1ro _ (fun rv => ?_) _) fun _ => trivial
 cases rv with
 | tmp t => exact trivial
 | cell a t => exact Z1q0.bind (Z1rf _) fun _ => Z1qr _ _
end
theorem World_at_self (w : World) : w.at w.drawn = w := rfl
def EndF (c : Frame) : Ending -> Frame -> Prop
 | .returned v, fr => fr = c.finish v
 | .panicked ch, fr => fr = c.raise ch
 | .outgrown, _ => False
def EndX (c : Frame) (cs : List Frame) (R : Ending -> World -> Prop) (fr' : Frame) (cs' : List Frame) (w' : World) : Prop :=
 cs' = cs /\ ∃ e w₀, R e w₀ /\ AtRel w₀ w' /\ EndF c e fr'
def EndZ (P : Program) (fr0 : Frame) (w : World) (R : Ending -> World -> Prop) : Prop := ∀ (d : Nat) (c : Frame) (cs : List Frame), Runs P (EndX c cs R) fr0 (c :: cs) (w.at d)
def Z1vt (P : Program) (f : FuncId) (args : Array Value) (w : World) (R : Ending -> World -> Prop) : Prop := EndZ P (Frame.enter P f args .normal) w R
def Z1wt (P : Program) (l : Nat) (f : FuncId) (tmps : Array Value) (assign body : Code) (w : World) (R : Ending -> World -> Prop) : Prop := EndZ P (Frame.round l f tmps assign body .normal) w R
theorem EndZ.mono {P : Program} {fr0 : Frame} {w : World} {R R' : Ending -> World -> Prop} (h : EndZ P fr0 w R) (hr : ∀ e w', R e w' -> R' e w') : EndZ P fr0 w R' :=
 fun d c cs => (h d c cs).mono fun _ _ _ ⟨h1, e, w₀, h2, h3, h4⟩ => ⟨h1, e, w₀, hr _ _ h2, h3, h4⟩
theorem Z1vt.mono {P : Program} {f : FuncId} {args : Array Value} {w : World} {R R' : Ending -> World -> Prop} (h : Z1vt P f args w R) (hr : ∀ e w', R e w' -> R' e w') : Z1vt P f args w R' := EndZ.mono h hr
theorem Z1wt.mono {P : Program} {l : Nat} {f : FuncId} {tmps : Array Value} {assign body : Code} {w : World} {R R' : Ending -> World -> Prop} (h : Z1wt P l f tmps assign body w R) (hr : ∀ e w', R e w' -> R' e w') : Z1wt P l f tmps assign body w R' := EndZ.mono h hr
def Z1xv (P : Program) (o : Oper) (a : Act) (next : Act -> World -> Prop) (Q : Exit -> Act -> World -> Prop) : Result Next -> Prop
 | .ok (.value v) w' => next (a.put o.dst v) w'
 | .ok .skip w' => next (a.put o.dst undef) w'
 | .ok (.defer d) w' => next ({ a with defers := d :: a.defers }.put o.dst undef) w'
 | .ok (.enter f args) w' => Z1vt P f args w' fun
   | .returned v, w'' => next (a.put o.dst v) w''
   | .panicked ch, w'' => Q (.panic ch) a w''
   | .outgrown, _ => False
 | .ok (.round l f tmps assign body) w' => Z1wt P l f tmps assign body w' fun
   | .returned v, w'' => next (a.put o.dst v) w''
   | .panicked ch, w'' => Q (.panic ch) a w''
   | .outgrown, _ => False
 | .halt (.panic v) w' => Q (.panic [{ v, recovered := false }]) a w'
 | _ => False
section
variable {P : Program} {r : Option Nat} {o : Oper} {a : Act} {next : Act -> World -> Prop} {Q : Exit -> Act -> World -> Prop} {w : World}
theorem Z1uq (v : Value) : Z1xv P o a next Q (.ok (.value v) w) = next (a.put o.dst v) w := rfl
theorem Z1xo : Z1xv P o a next Q (.ok .skip w) = next (a.put o.dst undef) w := rfl
theorem Z1yf (f : FuncId) (args : Array Value) : Z1xv P o a next Q (.ok (.enter f args) w) = Z1vt P f args w fun
  | .returned v, w'' => next (a.put o.dst v) w''
  | .panicked ch, w'' => Q (.panic ch) a w''
  | .outgrown, _ => False := rfl
theorem Z211 (l : Nat) (f : FuncId) (tmps : Array Value) (assign body : Code) : Z1xv P o a next Q (.ok (.round l f tmps assign body) w) = Z1wt P l f tmps assign body w fun
  | .returned v, w'' => next (a.put o.dst v) w''
  | .panicked ch, w'' => Q (.panic ch) a w''
  | .outgrown, _ => False := rfl
variable (P r o a next Q) in
def opZ (w : World) : Prop := Z1uv ((o.semAt r a.eval).events P w #[]) /\ Z1xv P o a next Q ((o.semAt r a.eval).run P w)
theorem Z220 {next' : Act -> World -> Prop} {Q' : Exit -> Act -> World -> Prop} (hn : ∀ a w, next a w -> next' a w) (hq : ∀ e a w, Q e a w -> Q' e a w) {x : Result Next} (h : Z1xv P o a next Q x) : Z1xv P o a next' Q' x := by
 cases x with
 | ok x w =>
  cases x <;> simp only [Z1xv] at h ⊢ <;>
   first
    | exact hn _ _ h
    | exact EndZ.mono h (fun e w'' he => by cases e <;> first | exact hn _ _ he | exact hq _ _ _ he | exact he)
 | halt x w => cases x <;> simp only [Z1xv] at h ⊢ <;> exact hq _ _ _ h
theorem Z1z0 {next' : Act -> World -> Prop} {Q' : Exit -> Act -> World -> Prop} (hn : ∀ a w, next a w -> next' a w) (hq : ∀ e a w, Q e a w -> Q' e a w) (h : opZ P r o a next Q w) : opZ P r o a next' Q' w := ⟨h.1, Z220 hn hq h.2⟩
theorem Z22s {b : Frame} {k : List Item} {cs : List Frame} {ops : Array Oper} {i : Nat} {rest : List Nat} (ho : ops[i]? = some o) (hw : Region.wanted o (yielded ops a.tmps) = true) (hb : b.roundOf = r)
  (hnext : ∀ a' w₀, next a' w₀ -> ∀ d, Runs P (Arr b k cs Q) (b.atR a' (.inRegion ops rest :: k)) cs (w₀.at d)) (h : ∀ d, opZ P r o a next Q (w.at d)) (d0 : Nat) :
  Runs P (Arr b k cs Q) (b.atR a (.inRegion ops (i :: rest) :: k)) cs (w.at d0) := by
 refine .stepAt fun d => ?_;obtain ⟨hq, hu⟩ := h d;have hg := stepGR_op (P := P) (b := b) (k := k) (cs := cs) (w := w.at d) (rest := rest) ho hw;rw [hb] at hg;have hfin : ∀ v, (b.atR a (.inRegion ops (i :: rest) :: k)).finish v = b.atR (a.put o.dst v) (.inRegion ops rest :: k) := by
  intro v; rw [Frame.finish_atR, ho]; rfl
 have hev : ∀ es, Z1uv es -> Z1uv (seen P (b.atR a (.inRegion ops (i :: rest) :: k)).fn (if ((b.atR a (.inRegion ops (i :: rest) :: k)).kind == .early) = true then #[] else es)) := fun es h => by
  split
  ·exact Z1up .nil
  ·exact Z1up h
 generalize hres : (o.semAt r a.eval).run P (w.at d) = x at hu
 match x, hu with
 | .ok (.value v) w', hu =>
  refine ⟨_, _, w', _, ?_, hev _ hq, by rw [<- World_at_self w']; exact hnext _ _ hu _⟩;rw [show (G (b.atR a (.inRegion ops (i :: rest) :: k)) cs) = { frame := b.atR a (.inRegion ops (i :: rest) :: k), callers := cs, status := .running, dying := none } from rfl, hg, <- hfin v];simp [stepG.apply, hres, GStep.after, G]
 | .ok .skip w', hu =>
  refine ⟨_, _, w', _, ?_, hev _ hq, by rw [<- World_at_self w']; exact hnext _ _ hu _⟩;rw [show (G (b.atR a (.inRegion ops (i :: rest) :: k)) cs) = { frame := b.atR a (.inRegion ops (i :: rest) :: k), callers := cs, status := .running, dying := none } from rfl, hg, <- hfin undef];simp [stepG.apply, hres, GStep.after, G]
 | .ok (.defer df) w', hu =>
  refine ⟨_, _, w', _, ?_, hev _ hq, by rw [<- World_at_self w']; exact hnext _ _ hu _⟩;have hfd : ({ b.atR a (.inRegion ops (i :: rest) :: k) with defers := df :: a.defers } : Frame).finish undef = b.atR ({ a with defers := df :: a.defers }.put o.dst undef) (.inRegion ops rest :: k) := by
   have := Frame.finish_atR b { a with defers := df :: a.defers } ops i rest k undef;rw [ho] at this; exact this
  rw [show (G (b.atR a (.inRegion ops (i :: rest) :: k)) cs) = { frame := b.atR a (.inRegion ops (i :: rest) :: k), callers := cs, status := .running, dying := none } from rfl, hg, <- hfd];simp [stepG.apply, hres, GStep.after, G, Frame.atR]
 | .ok (.enter f args) w', hu =>
  refine ⟨Frame.enter P f args .normal, b.atR a (.inRegion ops (i :: rest) :: k) :: cs, w', _, ?_, hev _ hq, ?_⟩
  ·rw [show (G (b.atR a (.inRegion ops (i :: rest) :: k)) cs) = { frame := b.atR a (.inRegion ops (i :: rest) :: k), callers := cs, status := .running, dying := none } from rfl, hg];simp [stepG.apply, hres, GStep.after, G, Frame.atR]
  ·rw [<- World_at_self w'];refine (hu _ _ cs).trans fun fr' cs' w'' ⟨hc, e, w₀, hR, ⟨d2, hw2⟩, hf⟩ => ?_;subst hc hw2
   cases e with
   | returned v => obtain rfl : fr' = _ := hf; rw [hfin]; exact hnext _ _ hR d2
   | panicked ch => obtain rfl : fr' = _ := hf; exact Z1tw (e := .panic ch) hR ⟨_, Frame.raise_atR _ _ _ _⟩
   | outgrown => exact hf.elim
 | .ok (.round l f tmps assign body) w', hu =>
  refine ⟨Frame.round l f tmps assign body .normal, b.atR a (.inRegion ops (i :: rest) :: k) :: cs, w', _, ?_, hev _ hq, ?_⟩
  ·rw [show (G (b.atR a (.inRegion ops (i :: rest) :: k)) cs) = { frame := b.atR a (.inRegion ops (i :: rest) :: k), callers := cs, status := .running, dying := none } from rfl, hg];simp [stepG.apply, hres, GStep.after, G, Frame.atR]
  ·rw [<- World_at_self w'];refine (hu _ _ cs).trans fun fr' cs' w'' ⟨hc, e, w₀, hR, ⟨d2, hw2⟩, hf⟩ => ?_;subst hc hw2
   cases e with
   | returned v => obtain rfl : fr' = _ := hf; rw [hfin]; exact hnext _ _ hR d2
   | panicked ch => obtain rfl : fr' = _ := hf; exact Z1tw (e := .panic ch) hR ⟨_, Frame.raise_atR _ _ _ _⟩
   | outgrown => exact hf.elim
 | .halt (.panic v) w', hu =>
  refine ⟨{ b.atR a (.inRegion ops (i :: rest) :: k) with mode := .panicking [{ v, recovered := false }] }, cs, w', _, ?_, hev _ hq, ?_⟩
  ·rw [show (G (b.atR a (.inRegion ops (i :: rest) :: k)) cs) = { frame := b.atR a (.inRegion ops (i :: rest) :: k), callers := cs, status := .running, dying := none } from rfl, hg, <- Frame.raise_atR];simp [stepG.apply, hres, GStep.after, G]
  ·rw [<- World_at_self w']; exact Z1tw (e := .panic _) hu ⟨_, rfl⟩
end
end Go.Abs

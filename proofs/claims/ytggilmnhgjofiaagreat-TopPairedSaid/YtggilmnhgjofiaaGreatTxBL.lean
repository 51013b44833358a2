/- Part TxBL of the proofs about the benches of the accordion maker: see the last text of the claim for what is proved. -/
import Derived.Conc.LeavingOf
import Derived.Test.YtggilmnhgjofiaaGreatTxBK
set_option linter.unusedVariables false
set_option linter.unusedSimpArgs false
set_option linter.unnecessarySimpa false
set_option linter.constructorNameAsVariable false

namespace Go.Proofs.YtggilmnhgjofiaaGreat
open Go Go.Abs Go.Proofs
def setP (J : JbP) (a b : Int) : JbP := { J with p0 := a, p1 := b }
def setT (J : JbP) (a b c e : Int) : JbP := { J with p0 := a, p1 := b, t0 := c, t1 := e }
def setR (J : JbP) (a b c e : Int) : JbP := { J with p0 := a, p1 := b, r0 := c, r1 := e }
theorem Z1xu (J : JbP) (a b w0 w1 : Int) (l : Nat) (p : R2) (tp rt : Nat) : Z1u4 (winJ (setP J a b) w0 w1) l p tp rt = Z1u4 (winJ J w0 w1) l p tp rt :=
 Z1wh (J := winJ (setP J a b) w0 w1) (J' := winJ J w0 w1) 0 0 (fun _ _ => rfl) (fun _ => rfl) (fun _ => rfl) rfl rfl l p tp rt
theorem Z1zo (J : JbP) (a b w0 w1 : Int) (l : Nat) (p : R2) (tp rt : Nat) : Z1v4 (winJ (setP J a b) w0 w1) l p tp rt = Z1v4 (winJ J w0 w1) l p tp rt := by
 unfold Z1v4;rw [show (fun q => Z1u4 (winJ (setP J a b) w0 w1) l q tp rt) = fun q => Z1u4 (winJ J w0 w1) l q tp rt from funext fun q => Z1xu J a b w0 w1 l q tp rt];rfl
structure Ahead (J : JbP) (sh : List R2) (w0 w1 : Int) (tp tt tr : Int) (k n : Nat) : Prop where
 ok : OkJ J sh
 bnd : Bnd (winJ J w0 w1)
 tp : J.p0 <= tp /\ tp <= J.p1
 tt : J.t0 <= tt /\ tt <= J.t1
 tr : J.r0 <= tr /\ tr <= J.r1
 go : ∃ L, L <= 4 /\ k + L <= n /\ Z1v4 (winJ J w0 w1) L (J.p0, J.p1) 0 0 = true
structure Heard (J : JbP) (sh : List R2) (w0 w1 a b tp : Int) (k n : Nat) : Prop where
 ok : OkJ (setP J a b) sh
 tp : a <= tp /\ tp <= b
 go : ∃ m, Z21p (winJ (setP J a b) w0 w1) = some m /\ k + m <= n /\ Z1u4 (winJ J w0 w1) m (a, b) 0 0 = true /\ (∀ j, j < m -> Z1u4 (winJ J w0 w1) j (a, b) 0 0 = false) /\ m <= 4
theorem Z21u {J : JbP} {sh : List R2} {w0 w1 tp tt tr : Int} {k n : Nat} (h : Ahead J sh w0 w1 tp tt tr k n) {r : Int} (hr : tp - J.me <= r /\ r <= tp + J.me) {a b : Int} (e : (a, b) = Z1vg (J.p0, J.p1) (r - J.me, r + J.me)) :
  (J.p0 - J.me <= r /\ r <= J.p1 + J.me) /\ Heard J sh w0 w1 a b tp k n := by
 obtain ⟨hok, hb, htp, htt, htr, L, hL, hkL, hreads⟩ := h;obtain ⟨k0, hk0⟩ : ∃ k0 : Nat, r = J.p0 - J.me + k0 := ⟨(r - (J.p0 - J.me)).toNat, by omega⟩;have hst := Z1zn hreads (k := k0) (by show (k0 : Int) <= J.p1 - J.p0 + 2 * J.me; omega);have hra : Z1vr (J.p0, J.p1) J.me k0 = (a, b) := by rw [e, hk0]; rfl
 have hst : Z1u4 (winJ J w0 w1) L (a, b) 0 0 = true := by rw [<- hra]; exact hst
 have hab : a = mxI J.p0 (r - J.me) /\ b = mnI J.p1 (r + J.me) := by simp only [Z1vg, Prod.mk.injEq] at e; exact e
 have ha : a <= tp /\ J.p0 <= a := by rw [hab.1]; unfold mxI; split <;> omega
 have hbb : tp <= b /\ b <= J.p1 := by rw [hab.2]; unfold mnI; split <;> omega
 refine ⟨by omega, ?_, ⟨ha.1, hbb.1⟩, ?_⟩
 ·obtain ⟨hp, g1, g2, g3, g4, g5, g6, g7, g8, g9, g10, g11, g12⟩ := hok;refine ⟨?_, g1, g2, g3, g4, g5, g6, g7, g8, g9, g10, g11, g12⟩;simp only [InR, setP] at hp ⊢;omega
 ·have hf : (fun n => Z1u4 (winJ (setP J a b) w0 w1) n (a, b) 0 0) = fun n => Z1u4 (winJ J w0 w1) n (a, b) 0 0 := funext fun n => Z1xu J a b w0 w1 n (a, b) 0 0;obtain ⟨m, hm, hmL⟩ := Z23u (f := fun n => Z1u4 (winJ J w0 w1) n (a, b) 0 0) hL hst;obtain ⟨g1, g2, g3⟩ := Z1xi hm;exact ⟨m, by show Z1w0 (fun n => Z1u4 (winJ (setP J a b) w0 w1) n (a, b) 0 0) = some m; rw [hf]; exact hm, by omega, g1, g3, g2⟩
theorem Z1zp {J : JbP} {tp rt : Nat} (h : Z1wf J tp rt = true) : J.least <= (Z1v9 (J.t0, J.t1) (J.x0, J.x1) tp).1 /\ J.least <= (Z1v9 (J.r0, J.r1) (J.y0, J.y1) rt).1 := by
 have h : Z1x1 (Z1v9 (J.t0, J.t1) (J.x0, J.x1) tp) (Z1v9 (J.r0, J.r1) (J.y0, J.y1) rt) J.least = 2 := of_decide_eq_true h;unfold Z1x1 at h
 split at h
 ·cases h
 ·split at h
  ·assumption
  ·cases h
theorem Z20v {J : JbP} {sh : List R2} {w0 w1 a b tp : Int} {k n : Nat} (h : Heard J sh w0 w1 a b tp k n) {m : Nat} (hm : Z21p (winJ (setP J a b) w0 w1) = some m) {v : Int} (hv : v = Z1vu (winJ (setP J a b) w0 w1) m (a, b) 0 0) :
  (k + m <= n /\ m <= 4) /\ (m = 0 -> hasR (w0, w1) (a, b) = true) /\ ∀ l, m = l + 1 -> (v = 1 /\ Z1wf J 1 0 = true /\ Z1v4 (winJ J w0 w1) l (Z1wn (a, b) (J.u0, J.u1)) 1 0 = true) ∨ (v = 2 /\ Z1wf J 0 1 = true /\ Z1v4 (winJ J w0 w1) l (Z1vf (a, b) (J.d0, J.d1)) 0 1 = true) := by
 obtain ⟨-, -, m', hm', h1, h2, h3, h4⟩ := h;obtain rfl : m = m' := Option.some.inj (hm.symm.trans hm');refine ⟨⟨h1, h4⟩, fun e => by subst e; exact h2, fun l e => ?_⟩;subst e;have h0 : hasR (w0, w1) (a, b) = false := h3 0 (Nat.succ_pos _);have hss := Z1y6 (winJ (setP J a b) w0 w1) (l + 1) (a, b) 0 0;rw [Z1xu, h2, <- hv] at hss;have hw : hasR ((winJ (setP J a b) w0 w1).w0, (winJ (setP J a b) w0 w1).w1) (a, b) = false := h0;rw [hw, Bool.false_or] at hss;have hpos : v > 0 := of_decide_eq_true hss.symm;rw [Z1vu] at hv
 split at hv
 ·rename_i hc
  rw [Bool.and_eq_true, Z1zo] at hc;exact .inl ⟨hv, hc.1, hc.2⟩
 ·split at hv
  ·rename_i hc
   rw [Bool.and_eq_true, Z1zo] at hc;exact .inr ⟨hv, hc.1, hc.2⟩
  ·omega
theorem Z23v {J : JbP} {sh : List R2} {w0 w1 a b tp tt tr : Int} {k n l : Nat} (hA : Ahead J sh w0 w1 tp tt tr k n) (hH : Heard J sh w0 w1 a b tp k n) (hl : k + (l + 1) <= n) (hl4 : l + 1 <= 4) (hs : Z1wf J 1 0 = true) (hr : Z1v4 (winJ J w0 w1) l (Z1wn (a, b) (J.u0, J.u1)) 1 0 = true)
  {a2 b2 c e n1 n2 tp2 tt2 : Int} (e1 : (a2, b2) = Z1wn (a, b) (J.u0, J.u1)) (e2 : (c, e) = Z1vf (J.t0, J.t1) (J.x0, J.x1)) (h1 : J.u0 <= n1 /\ n1 <= J.u1) (h2 : J.x0 <= n2 /\ n2 <= J.x1) (h3 : tp2 = tp + n1) (h4 : tt2 = tt - n2) :
  Ahead (setT J a2 b2 c e) sh w0 w1 tp2 tt2 tr (k + 1) n := by
 obtain ⟨hok, hb, htp, htt, htr, -⟩ := hA;obtain ⟨hok1, htp1, -⟩ := hH;rw [<- e1] at hr;have hsl := (Z1zp hs).1;have et : Z1v9 (J.t0, J.t1) (J.x0, J.x1) 1 = (c, e) := e2.symm;rw [et] at hsl;simp only [Z1wn, Z1vf, Prod.mk.injEq] at e1 e2;have hub := hb.u;have hsh : ∀ (l : Nat) (p : R2) (tp rt : Nat), Z1u4 (winJ J w0 w1) l p (tp + 1) (rt + 0) = Z1u4 (winJ (setT J a2 b2 c e) w0 w1) l p tp rt := Z1wh 1 0 (fun tp rt => by
  show Z1wp (J.t0, J.t1) (J.x0, J.x1) (J.r0, J.r1) (J.y0, J.y1) J.least (tp + 1) rt = Z1wp (c, e) (J.x0, J.x1) (J.r0, J.r1) (J.y0, J.y1) J.least tp rt
  unfold Z1wp
  rw [Z1ye, <- et]; rfl) (fun _ => rfl) (fun _ => rfl) rfl rfl
 have hr2 : Z1v4 (winJ (setT J a2 b2 c e) w0 w1) l (a2, b2) 0 0 = true := by
  rw [<- hr];unfold Z1v4;rw [show (fun q => Z1u4 (winJ (setT J a2 b2 c e) w0 w1) l q 0 0) = fun q => Z1u4 (winJ J w0 w1) l q 1 0 from funext fun q => (hsh l q 0 0).symm];rfl
 have hub' : 0 <= J.u0 /\ J.u0 <= J.u1 /\ J.u1 <= 7 := hub;have hbn := Z20f hb (by omega) hr;have hb2 : Bnd (winJ (setT J a2 b2 c e) w0 w1) := ⟨hb.w, hb.u, hb.d, hb.m⟩;obtain ⟨hp, g1, g2, g3, g4, g5, g6, g7, g8, g9, g10, g11, g12⟩ := hok;refine ⟨⟨?_, ?_, g2, g3, g4, g5, g6, g7, g8, g9, g10, g11, g12⟩, hb2, ?_, ?_, htr, ⟨l, by omega, by omega, hr2⟩⟩
 ·simp only [InR, setT]; omega
 ·simp only [InR, setT] at g1 g5 ⊢; omega
 ·simp only [setT]; omega
 ·simp only [setT]; omega
theorem Z22k {J : JbP} {sh : List R2} {w0 w1 a b tp tt tr : Int} {k n l : Nat} (hA : Ahead J sh w0 w1 tp tt tr k n) (hH : Heard J sh w0 w1 a b tp k n) (hl : k + (l + 1) <= n) (hl4 : l + 1 <= 4) (hs : Z1wf J 0 1 = true) (hr : Z1v4 (winJ J w0 w1) l (Z1vf (a, b) (J.d0, J.d1)) 0 1 = true)
  {a2 b2 c e n1 n2 tp2 tr2 : Int} (e1 : (a2, b2) = Z1vf (a, b) (J.d0, J.d1)) (e2 : (c, e) = Z1vf (J.r0, J.r1) (J.y0, J.y1)) (h1 : J.d0 <= n1 /\ n1 <= J.d1) (h2 : J.y0 <= n2 /\ n2 <= J.y1) (h3 : tp2 = tp - n1) (h4 : tr2 = tr - n2) :
  Ahead (setR J a2 b2 c e) sh w0 w1 tp2 tt tr2 (k + 1) n := by
 obtain ⟨hok, hb, htp, htt, htr, -⟩ := hA;obtain ⟨hok1, htp1, -⟩ := hH;rw [<- e1] at hr;have hsl := (Z1zp hs).2;have et : Z1v9 (J.r0, J.r1) (J.y0, J.y1) 1 = (c, e) := e2.symm;rw [et] at hsl;simp only [Z1vf, Prod.mk.injEq] at e1 e2;have hub := hb.d;have hsh : ∀ (l : Nat) (p : R2) (tp rt : Nat), Z1u4 (winJ J w0 w1) l p (tp + 0) (rt + 1) = Z1u4 (winJ (setR J a2 b2 c e) w0 w1) l p tp rt := Z1wh 0 1 (fun tp rt => by
  show Z1wp (J.t0, J.t1) (J.x0, J.x1) (J.r0, J.r1) (J.y0, J.y1) J.least tp (rt + 1) = Z1wp (J.t0, J.t1) (J.x0, J.x1) (c, e) (J.y0, J.y1) J.least tp rt
  unfold Z1wp
  rw [Z1ye, <- et]; rfl) (fun _ => rfl) (fun _ => rfl) rfl rfl
 have hr2 : Z1v4 (winJ (setR J a2 b2 c e) w0 w1) l (a2, b2) 0 0 = true := by
  rw [<- hr];unfold Z1v4;rw [show (fun q => Z1u4 (winJ (setR J a2 b2 c e) w0 w1) l q 0 0) = fun q => Z1u4 (winJ J w0 w1) l q 0 1 from funext fun q => (hsh l q 0 0).symm];rfl
 have hub' : 0 <= J.d0 /\ J.d0 <= J.d1 /\ J.d1 <= 7 := hub;have hbn := Z20f hb (by omega) hr;have hb2 : Bnd (winJ (setR J a2 b2 c e) w0 w1) := ⟨hb.w, hb.u, hb.d, hb.m⟩;obtain ⟨hp, g1, g2, g3, g4, g5, g6, g7, g8, g9, g10, g11, g12⟩ := hok;refine ⟨⟨?_, g1, ?_, g3, g4, g5, g6, g7, g8, g9, g10, g11, g12⟩, hb2, ?_, htt, ?_, ⟨l, by omega, by omega, hr2⟩⟩
 ·simp only [InR, setR]; omega
 ·simp only [InR, setR] at g2 g6 ⊢; omega
 ·simp only [setR]; omega
 ·simp only [setR]; omega
end Go.Proofs.YtggilmnhgjofiaaGreat

namespace Go.Proofs.YtggilmnhgjofiaaGreat
open Go Go.Abs Go.Proofs
theorem Z21v {f st sp pr note me t0 t1 r0 r1 u0 u1 d0 d1 x0 x1 y0 y1 least : Int} (hB : OkB f st sp pr note me t0 t1 r0 r1 u0 u1 d0 d1 x0 x1 y0 y1 least) {s h : Sd} (hs : OkS s.a s.b s.c s.d) {prN : Nat} {p0 p1 : Int} {SL : List D}
  (hOk : OkJ (prJ p0 p1 sp me t0 t1 r0 r1 u0 u1 d0 d1 x0 x1 y0 y1 least SL) (shP s h prN)) {a b : Int} (hab : (a, b) = Z1vz ((shP s h prN).map (Z1uu sp))) {n : Nat} (hg : Z1xh (winJ (prJ p0 p1 sp me t0 t1 r0 r1 u0 u1 d0 d1 x0 x1 y0 y1 least SL) a b) = some n)
  {tp tt tr : Int} (h1 : p0 <= tp /\ tp <= p1) (h2 : t0 <= tt /\ tt <= t1) (h3 : r0 <= tr /\ tr <= r1) :
  Ahead (prJ p0 p1 sp me t0 t1 r0 r1 u0 u1 d0 d1 x0 x1 y0 y1 least SL) (shP s h prN) a b tp tt tr 0 n := by
 obtain ⟨g1, g2, -⟩ := Z1xi hg;refine ⟨hOk, ?_, h1, h2, h3, ⟨n, g2, by omega, g1⟩⟩;have hw := Z22j hab 0 (Nat.zero_le _);obtain ⟨⟨i1, i2, i3⟩, -⟩ := hs;have hsp := hB.sp;have hf := hB.file;have hme := hB.me;simp only [Z1vi] at hw;refine ⟨?_, ?_, ?_, ?_⟩
 ·simp only [winJ]; omega
 ·have := hf.u; simp only [winJ, prJ, InR] at this ⊢; omega
 ·have := hf.d; simp only [winJ, prJ, InR] at this ⊢; omega
 ·simp only [winJ, prJ]; omega
theorem Z26e {s h : Sd} {prN : Nat} {sp a b a2 b2 tp lt lsl hsl due ht : Int} (hab : (a, b) = Z1vz ((shP s h prN).map (Z1uu sp))) (h1 : a <= a2) (h2 : b2 <= b) (htp : a2 <= tp /\ tp <= b2) (hlt : s.a <= lt /\ lt <= s.b) (hls : s.c <= lsl /\ lsl <= s.d) (hhs : h.c <= hsl /\ hsl <= h.d) (hp3 : prN <= 3) (hht : ht = tp + due) :
  ∀ p : Nat, p <= prN -> -sp <= ht + hsl * p - lt - lsl * p - due /\ ht + hsl * p - lt - lsl * p - due <= sp := by
 intro p hp;have hw := Z22j hab p hp;simp only [Z1vi] at hw;obtain rfl | rfl | rfl | rfl : p = 0 ∨ p = 1 ∨ p = 2 ∨ p = 3 := by omega
 all_goals omega
theorem Z26f {s h : Sd} {prN : Nat} {sp a b a2 b2 due v1 v2 : Int} (hab : (a, b) = Z1vz ((shP s h prN).map (Z1uu sp))) (h1 : a <= a2) (h2 : b2 <= b) (e1 : v1 = a2 + due) (e2 : v2 = b2 + due) :
  ∀ n : Nat, n <= prN -> due - ((Sd.mk v1 v2 h.c h.d).a + (Z1vi s ⟨v1, v2, h.c, h.d⟩ n).1) <= sp /\ ((Sd.mk v1 v2 h.c h.d).b + (Z1vi s ⟨v1, v2, h.c, h.d⟩ n).2) - due <= sp := by
 intro n hn;have hw := Z22j hab n hn;have e3 : Z1vi s ⟨v1, v2, h.c, h.d⟩ n = Z1vi s h n := rfl;rw [e3];dsimp only;omega
theorem RowS.put {L : List D} {l : List Sd} (h : RowS L l) (k : Nat) {a b c d : Int} (hs : OkS a b c d) : RowS (L.set k (.agg [I a, I b, I c, I d])) (l.set k ⟨a, b, c, d⟩) := ⟨by rw [h.eq, List.map_set]; rfl, fun s hm => by
 rcases List.mem_or_eq_of_mem_set hm with hm | rfl
 ·exact h.ok s hm
 ·exact hs⟩
end Go.Proofs.YtggilmnhgjofiaaGreat

namespace Go.Abs
open Go Go.Conc
def BotX (P : Program) (f : FuncId) (R : Ending -> World -> Prop) (fr' : Frame) (cs' : List Frame) (w' : World) : Prop :=
 cs' = [] /\ ∃ fn t w₀, fr'.mode = .returning /\ fr'.defers = [] /\ fr'.kind = .normal /\ fr'.fn = f /\ P.funcs[f]? = some fn /\ fn.results = #[.tmp t] /\ AtRel w₀ w' /\ R (.returned (fr'.tmps.getD t undef)) w₀
def BotZ (P : Program) (f : FuncId) (args : Array Value) (w : World) (R : Ending -> World -> Prop) : Prop :=
 ∀ d : Nat, Runs P (BotX P f R) (Frame.enter P f args .normal) [] (w.at d)
section
variable {P : Program} {w : World}
theorem BotZ.mono {f : FuncId} {args : Array Value} {R R' : Ending -> World -> Prop} (h : BotZ P f args w R) (hr : ∀ e w', R e w' -> R' e w') : BotZ P f args w R' :=
 fun d => (h d).mono fun _ _ _ ⟨h1, fn, t, w₀, h2, h3, h4, h5, h6, h8, h9, h7⟩ => ⟨h1, fn, t, w₀, h2, h3, h4, h5, h6, h8, h9, hr _ _ h7⟩
theorem Z22l {fn : Func} {t : Tmp} (h : fn.results = #[.tmp t]) (tmps : Array Value) (P : Program) (w : World) : (results fn tmps).events P w #[] = #[] := by
 simp [results, h]
theorem Z1wi {f : FuncId} {fn : Func} {t : Tmp} (hres : fn.results = #[.tmp t]) {R : Ending -> World -> Prop} (hR : ∀ ch w, ¬ R (.panicked ch) w) : ∀ (ds : List Deferred) (u : FrameMode) (w : World) (fr : Frame), fr.mode = u -> fr.defers = ds -> fr.fn = f -> P.funcs[f]? = some fn -> fr.kind = .normal ->
  Z1vn P fn fr.tmps R ds u w -> ∀ d, Runs P (BotX P f R) fr [] (w.at d)
 | [], .returning, w, fr, hm, hd, hfn, hf, hk, h, d => by
  obtain ⟨v, hr, hRv⟩ := h d;rw [results_tmp hres] at hr;obtain rfl : fr.tmps.getD t undef = v := by injection hr
  exact .here ⟨rfl, fn, t, w, hm, hd, hk, hfn, hf, hres, ⟨d, rfl⟩, hRv⟩
 | [], .panicking ch, w, fr, hm, hd, hfn, hf, hk, h, d => absurd h (hR _ _)
 | [], .run, _, _, _, _, _, _, _, h, _ => h.elim
 | d0 :: ds, u, w, fr, hm, hd, hfn, hf, hk, ⟨hu, r, w', h1, h2, h3⟩, d => .stepAt fun d' =>
  ⟨_, _, _, _, Z1xw (by rw [hm]; exact hu) hd h1 (h2 d'), Z1up ((Z1wb _).quiet _), Z1wi hres hR ds u w' { fr with defers := [] ++ ds } hm rfl hfn hf hk h3 d'⟩
theorem Z22m {f : FuncId} {fn : Func} {c : Code} {args : Array Value} {R : Ending -> World -> Prop} {t : Tmp} (hf : P.funcs[f]? = some fn) (hb : fn.body = some c) (hres : fn.results = #[.tmp t]) (hR : ∀ ch w, ¬ R (.panicked ch) w)
  (h : wpZ none P c (Z26j P fn R) { tmps := args ++ Array.replicate (fn.ntmps - args.size) undef, defers := [] } w) : BotZ P f args w R := by
 intro d
 let b : Frame := { (default : Frame) with fn := f, kind := .normal, roundOf := none }
 have henter : Frame.enter P f args .normal = b.atR { tmps := args ++ Array.replicate (fn.ntmps - args.size) undef, defers := [] } [.code c] := by
  simp [Frame.enter, Frame.atR, hf, hb, b]
 rw [henter];refine (h d b [] [] rfl).trans fun fr' cs' w' ⟨hc, e, a', w₀, hq, ⟨d2, hw⟩, hx⟩ => ?_;subst hc hw
 cases e with
 | normal =>
  obtain rfl : fr' = _ := hx;exact .calm (fun _ => Z240 rfl) fun d3 => Z1wi hres hR a'.defers .returning w₀ { b.atR a' [] with mode := .returning } rfl rfl rfl hf rfl hq d3
 | ret =>
  obtain ⟨k₁, rfl⟩ := hx;exact .calm (fun _ => Z21z rfl) fun d3 => Z1wi hres hR a'.defers .returning w₀ { b.atR a' (.code .ret :: k₁) with mode := .returning } rfl rfl rfl hf rfl hq d3
 | panic ch =>
  obtain ⟨k₁, rfl⟩ := hx;exact Z1wi hres hR a'.defers (.panicking ch) w₀ { b.atR a' k₁ with mode := .panicking ch } rfl rfl rfl hf rfl hq d2
 | exit id => exact hq.elim
 | goto l => exact hq.elim
 | outgrown => exact hq.elim
theorem Z26g {fr : Frame} {fn : Func} {t : Tmp} (hm : fr.mode = .returning) (hd : fr.defers = []) (hk : fr.kind = .normal) (hf : P.funcs[fr.fn]? = some fn) (hi : P.inits.idxOf? fr.fn = none) (hres : fn.results = #[.tmp t]) :
  ∃ es, stepG P true (G fr []) w = .ended (.done (fr.tmps.getD t undef)) w es /\ es = #[] := by
 refine ⟨seen P fr.fn ((results fn fr.tmps).events P w #[]), ?_, by rw [Z22l hres]; rfl⟩;have hr := results_tmp hres fr.tmps P w;simp [G, stepG, unwind, doReturn, hm, hd, hk, hf, hi, hr, GStep.after]
theorem Z25g {f : FuncId} {args : Array Value} {R : Ending -> World -> Prop} {Post : Value -> World -> Prop} (hi : P.inits.idxOf? f = none) (h : BotZ P f args w R) (hp : ∀ v w₀ w', R (.returned v) w₀ -> AtRel w₀ w' -> Post v w') :
  ∃ M last o w' t', runNT P (M + 1) (solo (G (Frame.enter P f args .normal) []) w) #[] = (.ended o w', t') /\ runN P M (solo (G (Frame.enter P f args .normal) []) w) = .next last /\
   step P last = .ended o w' /\ Conc.Good P Post last o w' t' := by
 obtain ⟨N, gs', fr', cs', w', sl', t', h1, ⟨k1, ⟨q, k2⟩, B, k3⟩, rfl, fn, t, w₀, h2, h3, h8, rfl, h4, h5, h6, h7⟩ := h w.drawn #[G (Frame.enter P f args .normal) []] none #[] ⟨rfl, ⟨_, leavers_one P _⟩, 0, past_nil⟩;rw [World_at_self, <- solo_eq_crowd] at h1;have hG : Goes P true AtRel (fun _ _ _ => False) (AtEnd P Z1x4 B Post) 0 (G fr' []) w' := fun w₁ hw => by
  obtain ⟨es, g1, rfl⟩ := Z26g (P := P) (w := w₁) h2 h3 h8 h4 hi h5;exact ⟨rfl, _, _, g1, fun e he => absurd he (by simp), hp _ _ _ h7 (atRel_trans _ _ _ h6 hw)⟩
 obtain ⟨M, last, o, w'', t'', e1, e2, e3, e4⟩ := beside_ends (fun _ _ _ h => h.elim) k1 k2 k3 hG (sl := sl');refine ⟨N + M, last, o, w'', t'', ?_, ?_, e3, e4⟩
 ·rw [Nat.add_assoc, runNT_add, h1]; exact e1
 ·rw [runN_add, <- runNT_fst P N _ #[], h1]; exact e2
end
section
variable {P : Program} {T : TT}
structure BotA (P : Program) (f : FuncId) (xs : List D) (H : List Blk) (Q : RA -> List Blk -> Prop) : Prop where
 out : ∀ F μ (vs : Array Value) w, HR F μ H w -> xs.length = vs.size -> (∀ (i : Nat) (d : D) (v : Value), xs[i]? = some d -> vs[i]? = some v -> VR F μ d v) -> BotZ P f vs w (Zb7 F μ H w Q)
theorem Z23w (hT : TOK P T) {f : FuncId} {fn : Func} {c : Code} (hf : P.funcs[f]? = some fn) (hb : fn.body = some c) {xs : List D} {H : List Blk} {Q : RA -> List Blk -> Prop} (hnt : Nat.ble xs.length fn.ntmps = true) {t : Tmp} (hres : fn.results = #[.tmp t]) (hQ : ∀ d H, ¬ Q (.pan d) H)
  (h : WpA P none H.length c (Znx ar T fn.results.toList Q) { env := Zd6 0 xs, H := H, nt := fn.ntmps, dfs := [] }) : BotA P f xs H Q := by
 refine ⟨fun F μ vs w hr hl hv => ?_⟩;have hle := Nat.le_of_ble_eq_true hnt;refine Z22m hf hb hres (fun ch w' ⟨_, _, _, _, _, _, _, _, hq⟩ => hQ _ _ hq) (Z1us (h.out F μ _ w ⟨hr, ⟨fun t d ht => ?_, ?_, rfl⟩, Nat.le_refl _⟩) fun e a' w' hp => ?_)
 ·obtain ⟨-, h2⟩ := Z9h 0 xs t d ht;rw [Nat.sub_zero] at h2;have hlt : t < vs.size := by rw [<- hl]; exact (List.getElem?_eq_some_iff.1 h2).1
  refine ⟨vs[t], ?_, hv t d _ h2 (Array.getElem?_eq_getElem hlt)⟩;rw [Array.getElem?_append_left hlt, Array.getElem?_eq_getElem hlt]
 ·simp; omega
 ·obtain ⟨F', μ', s', x, p1, p2, p3, p4, p5⟩ := hp;have hs : Stp F μ H w F' μ' s'.H w' := ⟨p1, p3.hr, p3.len, p2.same, fun k hk => p2.mks k (Z2p hk) hk⟩;have fin : s'.dfs = [] /\ Zih ar T s' (fun d => Q (.ret d) s'.H) fn.results.toList -> Z1vn P fn a'.tmps (Zb7 F μ H w Q) a'.defers .returning w' := fun ⟨h1, h2⟩ => by
   have hd : a'.defers = [] := by have := p3.er.dfs; rw [h1] at this; exact this
   rw [hd];intro n;obtain ⟨d, v, g1, g2, g3⟩ := Zbi hT (p3.hr.at n) p3.er h2;exact ⟨v, g1, F', μ', s'.H, d, hs, g2, g3⟩
  cases e <;> cases x <;> try exact p4.elim
  case normal.normal => exact fin p5
  case ret.ret => exact fin p5
  case panic.pan ch d => exact absurd p5.2 (hQ _ _)
  all_goals exact p5.elim
theorem Z26h {f : FuncId} {xs : List D} {H : List Blk} {Q : RA -> List Blk -> Prop} (h : BotA P f xs H (ghQ H.length Q)) : BotA P f xs H Q := by
 refine ⟨fun F μ vs w h1 h2 h3 => BotZ.mono (h.out F μ vs w h1 h2 h3) fun e w' he => ?_⟩
 cases e with
 | returned v =>
  obtain ⟨F', μ', H', d, hs, hv, hq⟩ := he;obtain ⟨F'', μ'', H'', d'', k1, k2, k3, k4, k5, k6⟩ := GhA.out hq F' μ' w' v hs.hr hv;exact ⟨F'', μ'', H'', d'', ⟨hs.post.trans k1, k2, k5 hs.len, fun j hj => (k3.same j hj).trans (hs.same j hj), fun k hk => ⟨(k3.mks k (Z2p hk) (hs.mks k hk).1).1, fun c hc => (k3.mks k (Z2p hk) (hs.mks k hk).1).2 c ((hs.mks k hk).2 c hc)⟩⟩, k4, k6⟩
 | panicked ch => exact he
 | outgrown => exact he.elim
theorem Z21w (hT : TOK P T) {A : Ar} (hA : A = ar) (sp : List Nat) {f : FuncId} {fn : Func} {c : Code} (hf : P.funcs[f]? = some fn) (hb : fn.body = some c) {xs : List D} {H : List Blk} {Q : RA -> List Blk -> Prop} (hnt : Nat.ble xs.length fn.ntmps = true) {t : Tmp} (hres : fn.results = #[.tmp t]) {nt : Nat} (hnt2 : fn.ntmps = nt) (hQ : ∀ d H, ¬ Q (.pan d) H)
  (h : ∀ S, S = Zo P none H.length -> vcF A T S sp c (Znx A T [.tmp t] (ghQ H.length Q)) { env := Zd6 0 xs, H := H, nt := nt, dfs := [] }) : BotA P f xs H Q := by
 subst hA; subst hnt2;have hrs : fn.results.toList = [.tmp t] := by rw [hres]
 refine Z26h (Z23w hT hf hb hnt hres hQ ?_);rw [hrs];exact Z5r hT c _ _ (h _ rfl)
end
end Go.Abs

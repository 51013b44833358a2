/- Part TxAL of the proofs about the benches of the accordion maker: see the last text of the claim for what is proved. -/
import Derived.LoopNIn
import Derived.Test.YthljpccegkmdnaaGreatDoorTxAK
set_option linter.unusedVariables false
set_option linter.unusedSimpArgs false
set_option linter.unnecessarySimpa false
set_option linter.constructorNameAsVariable false

namespace Go.Abs
open Go
theorem Zxl {n : Int} (h : -9223372036854775808 <= n /\ n <= 9223372036854775807) : IntKind.i64.wrap n = n := by rw [IntKind.wrap_i64]; omega
structure IsI (i : Int) (k : Nat) : Prop where
 eq : i = (k : Int)
structure Btw (l i h : Int) : Prop where
 ge : l <= i
 le : i <= h
section
variable {A : Ar} (hA : A = ar)
 include hA
theorem Z14 {n m : Int} (e : n = m) (h : -9223372036854775808 <= m /\ m <= 9223372036854775807) : A.fits .i64 n := by subst hA; rw [e]; exact Zxl h
theorem Z58 (x y : Int) : A.add x y = x + y := by subst hA; rfl
theorem Z24 (x y : Int) : A.sub x y = x - y := by subst hA; rfl
theorem xmul (x y : Int) : A.mul x y = x * y := by subst hA; rfl
theorem Zuq (x y : Int) : A.max x y = max x y := by subst hA; show (if _ then _ else _) = _; rw [Int.max_def]; split <;> split <;> omega
theorem Zir (x y : Int) : A.min x y = min x y := by subst hA; show (if _ then _ else _) = _; rw [Int.min_def]; split <;> split <;> omega
theorem Z2e (x y : Nat) : A.addN x y = x + y := by subst hA; rfl
theorem ytn {i : Int} {k : Nat} (h : IsI i k) : A.tn i = k := by subst hA; rw [h.eq]; rfl
theorem Zwl {i : Int} {k : Nat} (o : Nat) (h : IsI i k) : A.addN o (A.mulN (A.tn i) 1) = o + k := by subst hA; rw [h.eq]; show o + (Int.toNat (k : Int)) * 1 = _; simp
theorem Z4o {i : Int} {k n : Nat} (h : IsI i k) (hn : k < n) : A.inb i n := by subst hA; have := h.eq; exact ⟨by omega, by omega⟩
theorem Z1b {i : Int} {k n : Nat} {l : List D} (e : l.length = n) (h : IsI i k) (hn : k < n) : A.inb i (A.len l) := by subst hA; subst e; have := h.eq; exact ⟨by omega, by show i < (l.length : Int); omega⟩
theorem Z18 {l : List D} {i : Int} {k : Nat} {d : D} (e : IsI i k) (h : l[k]? = some d) : A.get l (A.tn i) = some d := by subst hA; rw [e.eq]; exact h
theorem Zo9 {l : List D} {i : Int} {k : Nat} {d : D} (o : Nat) (e : IsI i k) (h : l[o + k]? = some d) : A.get l (A.addN o (A.mulN (A.tn i) 1)) = some d := by rw [Zwl hA o e]; subst hA; exact h
theorem Zwm {l : List D} {i : Int} {k m : Nat} (o : Nat) (e : IsI i k) (hl : l.length = m) (h : o + k < m) : A.ltN (A.addN o (A.mulN (A.tn i) 1)) l := by rw [Zwl hA o e]; subst hA; subst hl; exact h
theorem Zs6 {l l' : List D} {i : Int} {k : Nat} {x : D} (o : Nat) (e : IsI i k) (h : l' = l.set (o + k) x) : A.set l (A.addN o (A.mulN (A.tn i) 1)) x = l' := by rw [Zwl hA o e]; subst hA; rw [h]; rfl
theorem Z7n {l l' : List D} {i : Int} {k : Nat} {x : D} (e : IsI i k) (h : l' = l.set k x) : A.set l (A.tn i) x = l' := by rw [ytn hA e]; subst hA; rw [h]; rfl
theorem Z31 {i : Int} {k n : Nat} {l : List D} (e : l.length = n) (h : IsI i k) (c : A.cmp .lss i (A.oi (A.len l)) = true) : k < n := by
 subst hA; subst e; have := h.eq; have c : i < (l.length : Int) := by simpa [ar, Z25] using c
 omega
theorem Z21 {i : Int} {k n : Nat} {l : List D} (e : l.length = n) (h : IsI i k) (c : A.cmp .lss i (A.oi (A.len l)) = false) : n <= k := by
 subst hA; subst e; have := h.eq; have c : (l.length : Int) <= i := by simpa [ar, Z25] using c
 omega
theorem Zz {i : Int} {k : Nat} (h : IsI i k) : IsI (A.add i 1) (k + 1) := by subst hA; exact ⟨by have := h.eq; show i + 1 = _; omega⟩
theorem Zy {i : Int} {k : Nat} (h : IsI i k) (hk : k < 9223372036854775807) : A.fits .i64 (A.add i 1) := by subst hA; exact Zxl (n := i + 1) (by have := h.eq; omega)
theorem xoi (n : Nat) : A.oi n = (n : Int) := by subst hA; rfl
theorem Z9m {l : List D} {n : Nat} (h : l.length = n) : A.len l = n := by subst hA; exact h
theorem Zkd {n m : Nat} (h : n = m) : A.eqN n m := by subst hA; exact h
theorem xlt {x y : Int} (h : A.cmp .lss x y = true) : x < y := by subst hA; simpa [ar, Z25] using h
theorem Z7x {x y : Int} (h : A.cmp .lss x y = false) : y <= x := by subst hA; simpa [ar, Z25] using h
theorem xle {x y : Int} (h : A.cmp .leq x y = true) : x <= y := by subst hA; simpa [ar, Z25] using h
theorem Zec {x y : Int} (h : A.cmp .leq x y = false) : y < x := by subst hA; simpa [ar, Z25] using h
theorem xgt {x y : Int} (h : A.cmp .gtr x y = true) : y < x := by subst hA; simpa [ar, Z25] using h
theorem Zax {x y : Int} (h : A.cmp .gtr x y = false) : x <= y := by subst hA; simpa [ar, Z25] using h
theorem xge {x y : Int} (h : A.cmp .geq x y = true) : y <= x := by subst hA; simpa [ar, Z25] using h
theorem Zur {x y : Int} (h : A.cmp .geq x y = false) : x < y := by subst hA; simpa [ar, Z25] using h
theorem xeq {x y : Int} (h : A.cmp .eql x y = true) : x = y := by subst hA; simpa [ar, Z25] using h
theorem Z2o {x y : Int} (h : A.cmp .eql x y = false) : x ≠ y := by subst hA; simpa [ar, Z25] using h
theorem xne {x y : Int} (h : A.cmp .neq x y = true) : x ≠ y := by subst hA; simpa [ar, Z25] using h
theorem Z4t {x y : Int} (h : A.cmp .neq x y = false) : x = y := by subst hA; simpa [ar, Z25] using h
end
end Go.Abs

namespace Go.Abs
open Go
theorem bm {b : Bool} {X Y : Prop} (h1 : b = true -> X) (h2 : b = false -> Y) : (match (generalizing := false) b with | true => X | false => Y) := by
 cases b
 ·exact h2 rfl
 ·exact h1 rfl
section
variable {P : Program} {T : TT} {r : Option Nat} {m : Nat} {ops : Array Oper} {Q : AX -> St -> Prop} {s : St}
end
end Go.Abs

namespace Go.Abs
open Go
def vcE (A : Ar) (T : TT) (ops : Array Oper) (Kend : St -> Prop) (sp : List Nat) (Dk : List Nat -> List (Nat × PK) -> St -> Prop) : List Nat -> List (Nat × PK) -> St -> Prop
 | [], _, s => Kend s
 | i :: L, pend, s =>
  match Z7a sp i with
  | true => Dk (i :: L) pend s
  | false =>
  match ops[i]? with
  | none => False
  | some o =>
   match Z36 s.nt o.dst, Z4s ops o pend with
   | true, true =>
    match Zr4 o.op, Z2l ops o pend && Zdz ops o with
    | 1, true => Zh ops s o (fun s => match Zo1 (s.only (o.looksAt ops)) o.op with
      | true => Z1q A T (s.only (o.looksAt ops)) (fun d => vcE A T ops Kend sp Dk L ((i, .val d) :: pend) (s.step o.dst d s.H s.dfs)) o.op
      | false => False) (fun s => vcE A T ops Kend sp Dk L ((i, .val (.tup [])) :: pend) (s.step o.dst (.tup []) s.H s.dfs))
    | 2, true => Zh ops s o (fun s => Z5g A T (s.only (o.looksAt ops)) (fun x mk => vcE A T ops Kend sp Dk L ((i, .alc s.H.length x (mk s.H.length)) :: pend) (s.step o.dst (mk s.H.length) (s.H ++ [x]) s.dfs)) o.op)
      (fun s => vcE A T ops Kend sp Dk L ((i, .val (.tup [])) :: pend) (s.step o.dst (.tup []) s.H s.dfs))
    | 1, false =>
     match Z2l ops o (Z1j o pend), Z8n ops i L with
     | true, true => Zh ops s o (fun s => Z1q A T (s.only (o.looksAt ops)) (fun d => Z7v A T ops (fun p s => vcE A T ops Kend sp Dk L p s) (Z1j o pend) (s.step o.dst d s.H s.dfs)) o.op) (fun s => Z7v A T ops (fun p s => vcE A T ops Kend sp Dk L p s) (Z1j o pend) (s.step o.dst (.tup []) s.H s.dfs))
     | _, _ => False
    | 3, _ =>
     match Z2l ops o (Z1j o pend), Z8n ops i L with
     | true, true => Zh ops s o (fun s => wA A T (s.only (o.looksAt ops)) (fun d H' => Z7v A T ops (fun p s => vcE A T ops Kend sp Dk L p s) (Z1j o pend) (s.step o.dst (d.getD (.tup [])) H' s.dfs)) o.op) (fun s => Z7v A T ops (fun p s => vcE A T ops Kend sp Dk L p s) (Z1j o pend) (s.step o.dst (.tup []) s.H s.dfs))
     | _, _ => False
    | _, _ => Dk (i :: L) pend s
   | _, _ => False
section
variable {P : Program} {T : TT} {r : Option Nat} {m : Nat} {ops : Array Oper} {Q : AX -> St -> Prop} {s : St} {A : Ar}
theorem Z6s (hT : TOK P T) {Kend : St -> Prop} (hK : ∀ s, Kend s -> Q .normal s) {sp : List Nat} {Dk : List Nat -> List (Nat × PK) -> St -> Prop} (hD : ∀ L pend s, Dk L pend s -> DrawA P T r m ops Q L pend s) : ∀ (L : List Nat) (pend : List (Nat × PK)) (s : St), vcE ar T ops Kend sp Dk L pend s -> DrawA P T r m ops Q L pend s
 | [], pend, s, h => .done (hK s h)
 | i :: L, pend, s, h => by
  simp only [vcE] at h
  split at h
  ·exact hD _ _ _ h
  have aft : ∀ {p : List (Nat × PK)} {s : St}, Z7v ar T ops (fun p s => vcE ar T ops Kend sp Dk L p s) p s -> Z7v ar T ops (fun p s => DrawA P T r m ops Q L p s) p s := fun h => ⟨h.1, Z6s hT hK hD L _ _ h.2⟩
  split at h
  ·exact h.elim
  ·rename_i o ho
   split at h
   ·rename_i hd hl
    have skip : ∀ {d : D}, d = .tup [] -> (Z2l ops o pend && Zdz ops o) = true -> (∀ K1 K2 : St -> Prop, K2 s -> Zh ops s o K1 K2) -> vcE ar T ops Kend sp Dk L ((i, .val d) :: pend) (s.step o.dst d s.H s.dfs) -> DrawA P T r m ops Q (i :: L) pend s := fun {d} e hws hg hk => by
     subst e;simp only [Bool.and_eq_true] at hws;exact .val ho hd (Z23 hl) (Z1t hws.1) (Z3s hws.2) (Z4n hg rfl) (Z6s hT hK hD L _ _ hk)
    split at h
    ·rename_i hws
     rcases Z3q h with ⟨hk, hg⟩ | ⟨hk, hg⟩
     ·split at hk
      ·rename_i hdet
       obtain ⟨d, h1, h2⟩ := Zk4 hdet hk;simp only [Bool.and_eq_true] at hws;exact .val ho hd (Z23 hl) (Z1t hws.1) (Z3s hws.2) (Z3r hg h2) (Z6s hT hK hD L _ _ h1)
      ·exact hk.elim
     ·exact skip rfl hws hg hk
    ·rename_i hws
     rcases Z3q h with ⟨hk, hg⟩ | ⟨hk, hg⟩
     ·obtain ⟨x, mk, h1, h2, h3⟩ := Zka hk hT;simp only [Bool.and_eq_true] at hws;have hw := Z1t hws.1;refine .alc ho hd (Z23 hl) hw (Z3s hws.2) h2 (Z3r hg (Zh1 h3 fun y mk' e => ⟨e.1, by rw [e.2]⟩)) (fun u hu hok => Zo4 (fun o' t h1 h2 => hw.out u hu o' t h1 h2) hok) (Z6s hT hK hD L _ _ h1)
     ·exact skip rfl hws hg hk
    ·split at h
     ·rename_i hw hr
      refine Z5p ho hd hl hw hr ?_;rcases Z3q h with ⟨hk, hg⟩ | ⟨hk, hg⟩
      ·refine Z3r hg ?_;have := Zeg (P := P) (r := r) (o := o) (s := s.only (o.looksAt ops)) (K := fun d H' ds => Z7v ar T ops (fun p s => vcE ar T ops Kend sp Dk L p s) (Z1j o pend) (s.step o.dst d H' ds)) (X := fun _ _ => False) hT hk;exact this.mono (fun d H ds hk => aft hk) (fun _ _ h => h.elim)
      ·exact Z4n hg (aft hk)
     ·exact h.elim
    ·split at h
     ·rename_i hw hr
      refine Z5p ho hd hl hw hr ?_;rcases Z3q h with ⟨hk, hg⟩ | ⟨hk, hg⟩
      ·refine Z3r hg ?_;have := Zgs (P := P) (r := r) (o := o) (s := s.only (o.looksAt ops)) (K := fun d H' ds => Z7v ar T ops (fun p s => vcE ar T ops Kend sp Dk L p s) (Z1j o pend) (s.step o.dst d H' ds)) (X := fun _ _ => False) hT hk;exact this.mono (fun d H ds hk => aft hk) (fun _ _ h => h.elim)
      ·exact Z4n hg (aft hk)
     ·exact h.elim
    ·exact hD _ _ _ h
   ·exact h.elim
theorem Z5j (hT : TOK P T) {A : Ar} (hA : A = ar) {S : Stop} (hS : S = Zo P r m) (sp L : List Nat) {id : Nat} (hE : Zim ops = true) (hL : Zh0 ops.size L = true)
  (h : ∀ Dk, Dk = DrawA P T r m ops Q -> vcE A T ops (Q .normal) sp Dk L [] s) : S.code (.region id ops true) Q s := by
 subst hA; subst hS;exact Zk9 hT hE hL (Z6s hT (fun _ h => h) (fun _ _ _ h => h) L [] s (h _ rfl))
theorem Z63 (hT : TOK P T) {A : Ar} (hA : A = ar) {Dk : List Nat -> List (Nat × PK) -> St -> Prop} (hD : Dk = DrawA P T r m ops Q) (sp : List Nat) {L : List Nat} {pend : List (Nat × PK)} (h : vcE A T ops (Q .normal) sp Dk L pend s) : DrawA P T r m ops Q L pend s := by
 subst hA; subst hD;exact Z6s hT (fun _ h => h) (fun _ _ _ h => h) L pend s h
theorem Z9n (hT : TOK P T) {A : Ar} (hA : A = ar) {Dk : List Nat -> List (Nat × PK) -> St -> Prop} (hD : Dk = DrawA P T r m ops Q) (sp : List Nat) {i : Nat} {L : List Nat} {pend : List (Nat × PK)} {o : Oper} (d : D)
  (hoi : ops[i]? = some o) (hd : Z36 s.nt o.dst = true) (hlk : Z4s ops o pend = true) (hw : Z2l ops o pend = true) (hs : Zdz ops o = true) (hg : o.guard = none)
  (hv : Z1q A T (s.only (o.looksAt ops)) (fun x => x = d) o.op) (h : vcE A T ops (Q .normal) sp Dk L ((i, .val d) :: pend) (s.step o.dst d s.H s.dfs)) : Dk (i :: L) pend s := by
 have h2 := Z63 hT hA hD sp h;subst hA; subst hD;refine .val hoi hd (Z23 hlk) (Z1t hw) (Z3s hs) ?_ h2;unfold Z9i;simp only [Zh, hg];exact hv
end
end Go.Abs

namespace Go.Abs
open Go
def Zoa (P : Program) (r : Option Nat) (m : Nat) (c : Code) (Q : AX -> St -> Prop) : Nat -> St -> Prop
 | 0, _ => False
 | k + 1, s => WpA P r m c (Zb1 (Zoa P r m c Q k) Q) s
section
variable {P : Program} {T : TT} {r : Option Nat} {m : Nat} {Q : AX -> St -> Prop} {s : St}
theorem Z16g {c : Code} : ∀ (k : Nat) (s : St), Zoa P r m c Q k s -> ∀ F μ a w, RL m F μ s a w -> Code.roundsIn (Fc r) 0 P c (Z4f F μ s.H w m Q) k a w
 | 0, _, h => h.elim
 | k + 1, s, h => fun F μ a w h1 => by
  refine wpIn_mono (h.out F μ a w h1) fun e a' w' hp => ?_;refine hp.thenA fun F' μ' s' p1 p2 p3 p5 => ?_;have := Z16g k s' p5 F' μ' a' w' p3;exact rounds_mono _ (fun e a w hq => hq.trans p1 p2) _ _ this
 where
 rounds_mono {c : Code} {Q1 Q2 : Exit -> Act -> World -> Prop} : ∀ (k : Nat), (∀ e a w, Q1 e a w -> Q2 e a w) -> ∀ a w, Code.roundsIn (Fc r) 0 P c Q1 k a w -> Code.roundsIn (Fc r) 0 P c Q2 k a w
  | 0, _, _, _, h => h.elim
  | k + 1, hq, a, w, h => wpIn_mono h fun e a' w' hp => by
   cases e
   case normal => exact rounds_mono k hq _ _ hp
   all_goals exact hq _ _ _ hp
theorem Z16h {c : Code} (k : Nat) (h : Zoa P r m c Q k s) : WpA P r m (.loop c) Q s := ⟨fun F μ a w h1 => wpIn_loop_rounds k (Z16g k s h F μ a w h1)⟩
structure RnA (P : Program) (r : Option Nat) (m : Nat) (c : Code) (Q : AX -> St -> Prop) (k : Nat) (s : St) : Prop where
 out : Zoa P r m c Q k s
theorem Z1e9 {S : Stop} (hS : S = Zo P r m) (k : Nat) {c : Code} (h : ∀ Rn, Rn = RnA P r m c Q -> Rn k s) : S.code (.loop c) Q s := by
 subst hS; exact Z16h k (h _ rfl).out
theorem Z198 (hT : TOK P T) {A : Ar} (hA : A = ar) {S : Stop} (hS : S = Zo P r m) {c : Code} {Rn : Nat -> St -> Prop} (hR : Rn = RnA P r m c Q) {k : Nat} (h : vcC A T S c (Zb1 (Rn k) Q) s) : Rn (k + 1) s := by
 subst hA; subst hS; subst hR;refine ⟨Z94 (Z4a hT c _ s h) fun x s' hx => ?_⟩
 cases x
 case normal => exact RnA.out hx
 all_goals exact hx
end
end Go.Abs

namespace Go
section
variable {P : Program} {b : Frame} {a : Act} {k : List Item} {cs : List Frame} {w : World} {Q : Exit -> Act -> World -> Prop}
theorem Z54 {c : Code} : step P (lone (b.atR a (.code (.scope c) :: k)) cs w) = .next (lone (b.atR a (.code c :: .inScope c :: k)) cs w) :=
 step_lone_go (by simp [stepG, stepG.exec, Frame.atR])
theorem Zgc {c : Code} : step P (lone (b.atR a (.inScope c :: k)) cs w) = .next (lone (b.atR a k) cs w) :=
 step_lone_go (by simp [stepG, stepG.exec, Frame.atR])
def Zus (Q : Exit -> Act -> World -> Prop) : Exit -> Act -> World -> Prop
 | .goto _, _, _ => False
 | e, a, w => Q e a w
theorem Zmo {F : Fence} {n : Nat} {c : Code} (h : c.wpIn F n P (Zus Q) a w) : (Code.scope c).wpIn F n P Q a w := by
 intro b k cs hro hb hr;have h0 : (lone (b.atR a (.code (.scope c) :: k)) cs w).fenced P F := fenced_calm hb hr rfl;obtain ⟨e, a₁, w₁, hq, harr⟩ := h b (.inScope c :: k) cs hro hb hr
 cases e with
 | normal => exact ⟨.normal, a₁, w₁, hq, .head h0 Z54 (StepsIn.trans harr (.one (fenced_calm hb hr rfl) Zgc))⟩
 | exit id =>
  have hx : exitTo id (.inScope c :: k) = exitTo id k := by simp [exitTo]
  exact ⟨_, a₁, w₁, hq, fun k' hk => .head h0 Z54 (harr.1 k' (by rw [hx]; exact hk)),
   fun hr' hk => let ⟨k₁, h1, h2⟩ := harr.2 hr' (by rw [hx]; exact hk); ⟨k₁, h1, .head h0 Z54 h2⟩⟩
 | goto l => exact hq.elim
 | ret => exact ⟨_, a₁, w₁, hq, .of_steps (.one h0 Z54) harr⟩
 | panic ch => exact ⟨_, a₁, w₁, hq, .of_steps (.one h0 Z54) harr⟩
 | outgrown => exact ⟨_, a₁, w₁, hq, .of_steps (.one h0 Z54) harr⟩
end
namespace Abs
section
variable {P : Program} {T : TT} {r : Option Nat} {m : Nat} {Q : AX -> St -> Prop} {s : St}
def Zob (Q : AX -> St -> Prop) : AX -> St -> Prop
 | .goto _, _ => False
 | x, s => Q x s
theorem Zpr {c : Code} (h : WpA P r m c (Zob Q) s) : WpA P r m (.scope c) Q s :=
 ⟨fun F μ a w h1 => Zmo (wpIn_mono (h.out F μ a w h1) fun e a' w' hp => by
  obtain ⟨F', μ', s', x, p1, p2, p3, p5, p6⟩ := hp
  cases e <;> cases x <;> try exact p5.elim
  case goto.goto => exact p6.elim
  all_goals exact ⟨F', μ', s', _, p1, p2, p3, p5, p6⟩)⟩
theorem Zs7 (hT : TOK P T) {A : Ar} (hA : A = ar) {S : Stop} (hS : S = Zo P r m) {c : Code} (h : vcC A T S c (Zob Q) s) : S.code (.scope c) Q s := by
 subst hA; subst hS;exact Zpr (Z4a hT c _ s h)
end
end Abs
end Go

namespace Go.Abs
open Go
section
variable {P : Program} {T : TT} {F : Fz} {μ : Mu} {w : World} {r : Option Nat} {m : Nat} {Q : AX -> St -> Prop}
theorem Zut {H : List Blk} {K : D -> List Blk -> Prop} (sz : Nat) (hm : m <= H.length) (h : GhA m (.o H.length sz 0) (H ++ [.els sz []]) K) : GhA m (.v (.slice none 0 0)) H K := ⟨fun F μ w v hr hv => by
 obtain ⟨q1, q2, q3⟩ := Zc5 hr (sz := sz) (hr.dom _ (Nat.le_refl _)) (Nat.le_refl _)
 rw [Z6y] at q1 q2
 obtain rfl := hv.v_inv
 obtain ⟨F', μ', H', d', k1, k2, k3, k4, k5, k6⟩ := h.out F _ w _ q1 (.oNil _ _ none (Z2f _ _ _))
 exact ⟨F', μ', H', d', q2.trans k1, k2, Kp.trans ⟨fun i hi => by rw [Z2k _ (by omega)], fun i _ hk => Mks.app _ _ _ _ _ i hk⟩ k3, k4, fun h => k5 (by simp; omega), k6⟩⟩
theorem WkD.eq {d d' : D} (e : d = d') : WkD d d' := ⟨fun F μ v h => e ▸ h⟩
end
end Go.Abs

namespace Go.Abs
open Go
section
variable {P : Program} {T : TT} {r : Option Nat} {m : Nat}
theorem Zh2 (hT : TOK P T) {A : Ar} (hA : A = ar) {k nt : Nat} {as : List D} {H : List Blk} {env : List (Nat × D)} {params : List Nat} {assign body : Code} {Q : RA -> List Blk -> Prop} (hk : Z1m H k = some (.ob (.lp .ready none env nt params assign body))) (hl : params.length = as.length) (hp : ∀ t ∈ params, t < nt)
  (h : ∀ b S, S = Zo P (some b) H.length -> vcC A T S assign (Zb1 (fun s => Z1m s.H k = some (.ob (.lp .ready none env nt params assign body)) /\ S.code body (Zrx k params env nt assign body Q) { s with H := s.H.set k (.ob (.lp .busy none env nt params assign body)) }) (fun _ _ => False))
   { env := Zo5 params as env, H := H, nt := nt, dfs := [] }) : RoundA P k as H Q := by
 subst hA;exact Zpn hk hl hp fun b => Z4a hT assign _ _ (h b _ rfl)
end
end Go.Abs

namespace Go.Abs
open Go
section
variable {P : Program} {T : TT} {r : Option Nat} {m : Nat} {Q : AX -> St -> Prop}
theorem Z5q (hT : TOK P T) {ops : Array Oper} {K : List Nat -> St -> Prop} {l2 : List Nat} (hK : ∀ l s, K l s -> OpsA P r m ops Q (l ++ l2) s) : ∀ (l : List Nat) (s : St), Z4h ar T ops K l s -> OpsA P r m ops Q (l ++ l2) s
 | [], s, h => hK _ _ h
 | i :: l, s, h => by
  simp only [Z4h] at h
  split at h
  ·exact h.elim
  ·rename_i o ho
   split at h
   ·rename_i hd
    refine Z3k ho hd (Z53 h (fun e hk => ?_) (fun e hk => Z5q hT hK l _ hk));have := Zeg (P := P) (r := r) (o := o) (s := { s with env := e }) (K := fun d H' ds => Z4h ar T ops K l (St.step { s with env := e } o.dst d H' ds)) (X := fun _ _ => False) hT hk;exact this.mono (fun d H ds hk => Z5q hT hK l _ hk) (fun _ _ h => h.elim)
   ·rename_i hd
    refine Z3k ho hd (Z53 h (fun e hk => ?_) (fun e hk => Z5q hT hK l _ hk));have := Znv (P := P) (r := r) (o := o) (s := { s with env := e }) (K := fun d H' ds => Z4h ar T ops K l (St.step { s with env := e } o.dst d H' ds)) (X := fun _ _ => False) hT hk;exact this.mono (fun d H ds hk => Z5q hT hK l _ hk) (fun _ _ h => h.elim)
   ·rename_i hd
    refine Z3k ho hd (Z53 h (fun e hk => ?_) (fun e hk => Z5q hT hK l _ hk));have := Zgs (P := P) (r := r) (o := o) (s := { s with env := e }) (K := fun d H' ds => Z4h ar T ops K l (St.step { s with env := e } o.dst d H' ds)) (X := fun _ _ => False) hT hk;exact this.mono (fun d H ds hk => Z5q hT hK l _ hk) (fun _ _ h => h.elim)
   ·exact hK _ _ h
theorem Zke (hT : TOK P T) {A : Ar} (hA : A = ar) {S : Stop} (hS : S = Zo P r m) {ops : Array Oper} {s : St} (l1 l2 : List Nat)
  (h : Z4h A T ops (fun l s => match l with | [] => S.ops ops Q l2 s | i :: l => S.ops ops Q (i :: l ++ l2) s) l1 s) : OpsA P r m ops Q (l1 ++ l2) s := by
 subst hA; subst hS;refine Z5q hT (fun l s hk => ?_) l1 s h
 cases l with
 | nil => exact hk
 | cons i l => exact hk
end
end Go.Abs

namespace Go.Abs
open Go
def vcF (A : Ar) (T : TT) (S : Stop) (sp : List Nat) : Code -> (AX -> St -> Prop) -> St -> Prop
 | .seq x y, Q, s => vcF A T S sp x (Zb1 (vcF A T S sp y Q) Q) s
 | .skip, Q, s => Q .normal s
 | .label _, Q, s => Q .normal s
 | .ret, Q, s => Q .ret s
 | .exit id, Q, s => Q (.exit id) s
 | .block id c, Q, s => vcF A T S sp c (Zi3 id Q) s
 | .region id ops false, Q, s => match Z7a sp id with
  | true => S.code (.region id ops false) Q s
  | false => Z4h A T ops (fun l s => match l with | [] => Q .normal s | i :: l => S.ops ops Q (i :: l) s) (List.range ops.size) s
 | .cond c x y, Q, s => Zfc s c (vcF A T S sp x Q) (vcF A T S sp y Q)
 | c, Q, s => S.code c Q s
section
variable {P : Program} {T : TT} {r : Option Nat} {m : Nat} {Q : AX -> St -> Prop}
theorem Z5r (hT : TOK P T) {sp : List Nat} : ∀ (c : Code) (Q : AX -> St -> Prop) (s : St), vcF ar T (Zo P r m) sp c Q s -> WpA P r m c Q s
 | .seq x y, Q, s, h => by
  simp only [vcF] at h;refine Znq (Z94 (Z5r hT x _ s h) fun a s hq => ?_)
  cases a <;> first | exact Z5r hT y Q _ hq | exact hq
 | .skip, Q, s, h => Zje (by simpa only [vcF] using h)
 | .label l, Q, s, h => Zgi (by simpa only [vcF] using h)
 | .ret, Q, s, h => Znr (by simpa only [vcF] using h)
 | .exit id, Q, s, h => Zjf (by simpa only [vcF] using h)
 | .block id c, Q, s, h => Zgj (Z5r hT c _ s (by simpa only [vcF] using h))
 | .region id ops false, Q, s, h => by
  simp only [vcF] at h
  split at h
  ·simpa only [Zo] using h
  refine Zbh (Z3v hT (fun l s hk => ?_) _ _ h)
  cases l with
  | nil => exact Zf6 hk
  | cons i l => exact hk
 | .region id ops true, Q, s, h => by simpa only [vcF, Zo] using h
 | .cond c x y, Q, s, h => by
  simp only [vcF] at h;exact Zdw (Zfd h (fun s h => Z5r hT x Q s h) (fun s h => Z5r hT y Q s h))
 | .loop c, Q, s, h => by simpa only [vcF, Zo] using h
 | .scope c, Q, s, h => by simpa only [vcF, Zo] using h
 | .goto l, Q, s, h => by simpa only [vcF, Zo] using h
 | .refuse w, Q, s, h => by simpa only [vcF, Zo] using h
 | .rangeFunc a b c d, Q, s, h => by simpa only [vcF, Zo] using h
theorem Z38 (hT : TOK P T) {A : Ar} (hA : A = ar) (sp : List Nat) {f : FuncId} {fn : Func} {c : Code} (hf : P.funcs[f]? = some fn) (hb : fn.body = some c) (hnm : (fn.name == "runtime.NumGoroutine") = false) {as : List D} {H : List Blk} {Q : RA -> List Blk -> Prop} (hnt : Nat.ble as.length fn.ntmps = true) {rs : List ResultVar} (hrs : fn.results.toList = rs) {nt : Nat} (hnt2 : fn.ntmps = nt)
  (h : ∀ S, S = Zo P none H.length -> vcF A T S sp c (Znx A T rs (ghQ H.length Q)) { env := Zd6 0 as, H := H, nt := nt, dfs := [] }) : CallA P f as H Q := by
 subst hA; subst hrs; subst hnt2;exact Zcb (Zfb hT hf hb hnm hnt (Z5r hT c _ _ (h _ rfl)))
theorem Z2w (hT : TOK P T) {A : Ar} (hA : A = ar) {S : Stop} (hS : S = Zo P r m) (sp : List Nat) {c : Code} {s : St} (h : vcF A T S sp c Q s) : WpA P r m c Q s := by
 subst hA; subst hS; exact Z5r hT c _ _ h
theorem Z4j (hT : TOK P T) {A : Ar} (hA : A = ar) {S : Stop} (hS : S = Zo P r m) {id : Nat} {ops : Array Oper} {s : St} (l1 l2 : List Nat) (hl : List.range ops.size = l1 ++ l2)
  (h : Z4h A T ops (fun l s => match l with | [] => S.ops ops Q l2 s | i :: l => S.ops ops Q (i :: l ++ l2) s) l1 s) : S.code (.region id ops false) Q s := by
 have := Zke hT hA hS l1 l2 h;subst hA; subst hS;refine Zbh ?_;rw [hl]; exact this
theorem Zis (hT : TOK P T) {A : Ar} (hA : A = ar) {S : Stop} (hS : S = Zo P r m) {ops : Array Oper} {s : St} (t : Nat) {d : D} (d' : D) (ht : Z1c s.env t = some d) (e : d = d') (l1 l2 : List Nat)
  (h : Z4h A T ops (fun l s => match l with | [] => S.ops ops Q l2 s | i :: l => S.ops ops Q (i :: l ++ l2) s) l1 { s with env := Z6j s.env t d' }) : S.ops ops Q (l1 ++ l2) s :=
 Z26 hS (Zo7 t d' ht (WkD.eq e) (Z7 (Zii hS (Zke hT hA hS l1 l2 h))))
end
end Go.Abs

namespace Go.Abs
open Go
end Go.Abs

namespace Go.Abs
open Go
section
variable {P : Program} {T : TT} {r : Option Nat} {m : Nat} {Q : AX -> St -> Prop} {F : Fz} {μ : Mu} {w : World} {K : St -> Prop} {s : St}
theorem Zoc {H : List Blk} {k sz : Nat} {es es' : List D} {x : Blk} (hb : Z17 H k = some (sz, es)) (hx : x.es = some (sz, es')) (hbf : BFr x) (hl : es'.length = es.length) (hc : ∀ c, Z1l F μ sz es c -> Z1l F μ sz es' c) (h : HR F μ H w) :
  HR F μ (H.set k x) w /\ Post F μ H w F μ (H.set k x) w /\ ∀ j y, Z13 H j = some y -> Z13 (H.set k x) j = some y := by
 have hkl := Z7k hb;have hset : ∀ j, (H.set k x)[j]? = if j = k then some x else H[j]? := fun j => by
  have := Z2m (H := H) x (Nat.le_of_lt hkl) j
  rwa [Z4l, if_pos hkl] at this
 have hno : ∀ y, x.obj = some y -> False := fun y hy => by cases x <;> simp [Blk.es, Blk.obj] at hx hy
 have := Z5e (μ' := μ) (w' := w) (H' := H.set k x) (fun j => j = k) h (by simp) (fun j hj => by rw [hset, if_neg hj]) (fun j _ => rfl) (fun j b _ => Iff.rfl) (fun _ _ _ h => h) (Nat.le_refl _) rfl rfl rfl
  (fun b' hb' hn => rfl) (fun k' b' hk' _ hf => .inl ⟨k, rfl, Z15 hb, by subst hk'; exact hf⟩) (fun k1 k2 b h1 h2 _ _ _ _ => h1.trans h2.symm)
  (fun k' hk' hle' => by subst hk'; simp at hle'; omega) (fun _ k' sz1 es1 hk' hb1 hne => ?_) (fun k' y hk' _ b => by subst hk'; exact h.plain k' _ hb b) (fun _ k' y hk' hy _ => by subst hk'; rw [Z19 (by rw [hset, if_pos rfl])] at hy; exact (hno y hy).elim) (fun k' hk' he => by subst hk'; exact h.non _ he) (fun k' y hk' hy => by
   subst hk'; rw [hset, if_pos rfl] at hy; cases hy; exact hbf)
 ·exact ⟨this.1, this.2.1, fun j y hj => Z95 _ hb hj⟩
 ·subst hk';rw [Z1s (by rw [hset, if_pos rfl]), hx] at hb1
  cases hb1
  rcases h.row k' _ _ hb hne with ⟨e1, e2⟩ | ⟨b, m, c, t, e1, e2, e3, e4, e5⟩
  ·refine .inl ⟨e1, ?_⟩;subst e2
   cases es' with
   | nil => rfl
   | cons => simp at hl
  ·exact .inr ⟨b, m, c, t, e1, e2, e3, by rw [hl]; exact e4, hc c e5⟩
theorem Zod {a : Act} {k sz : Nat} {es es' : List D} {x : Blk} (hb : Z17 s.H k = some (sz, es)) (hx : x.es = some (sz, es')) (hbf : BFr x) (hl : es'.length = es.length) (hc : ∀ c, Z1l F μ sz es c -> Z1l F μ sz es' c) (h : RL m F μ s a w) :
  RL m F μ { s with H := s.H.set k x } a w /\ Post F μ s.H w F μ (s.H.set k x) w /\ Kp m μ s.H μ (s.H.set k x) := by
 obtain ⟨h1, h2, h3⟩ := Zoc hb hx hbf hl hc h.hr;exact ⟨⟨h1, ⟨h.er.env, h.er.nt, h.er.dfs.mono (fun _ _ _ e => e) (fun _ _ e => e) (fun j hj => ⟨h3 j _ hj, fun _ e => e⟩)⟩, by simpa using h.len⟩, h2, .ob fun i hi => h3 i _ hi⟩
theorem Zmp (k : Nat) {sz : Nat} {es : List D} (hk : Z1m s.H k = some (.elo sz es)) (hf : FrL es) (h : GS m K { s with H := s.H.set k (.els sz es) }) : GS m K s :=
 Z4i (fun F μ act w h1 => let ⟨g1, g2, g3⟩ := Zod (x := .els sz es) (Z8e hk) rfl (fun _ _ e => by cases e; exact hf) rfl (fun _ h => h) h1; ⟨F, μ, g2, g3, g1⟩) h
theorem Zs8 (k : Nat) {sz : Nat} {es : List D} (hk : Z1m s.H k = some (.els sz es)) (h : GS m K { s with H := s.H.set k (.elo sz es) }) : GS m K s :=
 Z4i (fun F μ act w h1 => let ⟨g1, g2, g3⟩ := Zod (x := .elo sz es) (Z5f hk) rfl (fun _ _ e => by cases e) rfl (fun _ h => h) h1; ⟨F, μ, g2, g3, g1⟩) h
structure FzP (k2 isz : Nat) (row : List D) (d d' : D) : Prop where
 len : d'.cells.length = d.cells.length
 cel : ∀ (r : Nat) (c' : D), d'.cells[r]? = some c' -> d.cells[r]? = some c' ∨ (d.cells[r]? = some (.o k2 isz row.length) /\ c' = .sl isz row)
theorem FzP.same {k2 isz : Nat} {row : List D} (d : D) : FzP k2 isz row d d := ⟨rfl, fun _ _ h => .inl h⟩
theorem Zuu {k2 isz : Nat} {row es es' : List D} {i : Nat} {d d' : D} (h : FzP k2 isz row d d') (he : es' = es.set i d') (hi : i < es.length -> es[i]? = some d) : es'.length = es.length /\ ∀ (j : Nat) (x' : D), es'[j]? = some x' -> ∃ x, es[j]? = some x /\ FzP k2 isz row x x' := by
 subst he;refine ⟨by simp, fun j x' hx => ?_⟩;rw [List.getElem?_set] at hx
 split at hx
 ·rename_i e; subst e
  split at hx
  ·rename_i hl; cases hx; exact ⟨d, hi hl, h⟩
  ·cases hx
 ·exact ⟨x', hx, .same _⟩
theorem Zps {k sz n : Nat} {v : Value} (h : VR F μ (.o k sz n) v) (F' : Fz) : VR F' μ (.o k sz n) v := by
 cases h with
 | cl _ _ hc => cases hc
 | o _ _ _ b m cap h1 h2 h3 => exact .o _ _ _ b m cap h1 h2 h3
 | oNil _ _ a h1 => exact .oNil _ _ a h1
theorem Zwn {H : List Blk} {k k2 sz isz : Nat} {es es' row : List D} (hk : Z1m H k = some (.elo sz es)) (hk2 : Z1m H k2 = some (.els isz row)) (hp : es'.length = es.length /\ ∀ (j : Nat) (x' : D), es'[j]? = some x' -> ∃ x, es[j]? = some x /\ FzP k2 isz row x x') (hr : HR F μ H w) :
  ∃ F', (∀ b o v, F b o = some v -> F' b o = some v) /\ HR F' μ ((H.set k2 .dead).set k (.elo sz es')) w /\ Post F μ H w F' μ ((H.set k2 .dead).set k (.elo sz es')) w /\ ∀ j y, Z13 H j = some y -> Z13 ((H.set k2 .dead).set k (.elo sz es')) j = some y := by
 obtain ⟨d', rfl, hR⟩ := fzG_sound (kk := [k2]) hr (.o k2 isz row.length) (fun d' => d' = .sl isz row) (by
  simp only [fzG, Z7a, Nat.beq_refl, hk2, and_true]; exact (rfl : row.length = row.length))
 have hl2 : k2 < H.length := Z7k (Z5f hk2);have hne : k2 ≠ k := by rintro rfl; rw [hk] at hk2; cases hk2
 obtain ⟨q1, q2, q3⟩ := Zd7 (kk := [k2]) (H' := H.set k2 .dead) hr (by simp) (fun i x' hx => by
  rw [List.getElem?_set] at hx
  split at hx
  ·rename_i e; subst e
   cases hx
   exact ⟨.els isz row, by rw [<- Z1u]; exact hk2, .inl ⟨by simp, rfl, rfl⟩⟩
  ·rename_i e
   exact ⟨x', hx, .inr ⟨by simpa using fun h => e h.symm, .inl rfl⟩⟩)
 have hb : Z17 (H.set k2 .dead) k = some (sz, es) := by
  have := Z8e hk;unfold Z17 at this ⊢;rw [List.getElem?_set, if_neg hne]; exact this
 obtain ⟨r1, r2, r3⟩ := Zoc (x := .elo sz es') hb rfl (fun _ _ e => by cases e) hp.1 (fun c hc j x' hx => by
  obtain ⟨x, hx0, hf⟩ := hp.2 j x' hx
  obtain ⟨g1, g2⟩ := hc j x hx0
  refine ⟨by rw [hf.len]; exact g1, fun rr c' hc' => ?_⟩
  rcases hf.cel rr c' hc' with e | ⟨e, rfl⟩
  ·exact g2 rr c' e
  ·obtain ⟨v, v1, v2, v3⟩ := g2 rr _ e
   exact ⟨v, v1, v2, hR.val v (Zps v3 _)⟩) q1
 exact ⟨_, Z2y, r1, q2.trans r2, fun j y hj => r3 j y (q3 j y hj)⟩
theorem Zs9 (k k2 : Nat) {sz isz : Nat} {es es' row : List D} (hk : Z1m s.H k = some (.elo sz es)) (hk2 : Z1m s.H k2 = some (.els isz row)) (hp : es'.length = es.length /\ ∀ (j : Nat) (x' : D), es'[j]? = some x' -> ∃ x, es[j]? = some x /\ FzP k2 isz row x x')
  (h : GS m K { s with H := (s.H.set k2 .dead).set k (.elo sz es') }) : GS m K s := by
 refine Z4i (s' := { s with H := (s.H.set k2 .dead).set k (.elo sz es') }) (fun F μ act w h1 => ?_) h;obtain ⟨F', hm, r1, r2, hob⟩ := Zwn hk hk2 hp h1.hr;refine ⟨_, μ, r2, .ob fun i hi => hob i _ hi, r1, ⟨fun t d ht => ?_, h1.er.nt, h1.er.dfs.mono hm (fun _ _ e => e) (fun j hj => ⟨hob j _ hj, fun _ e => e⟩)⟩, by simpa using h1.len⟩;obtain ⟨v, v1, v2⟩ := h1.er.env t d ht;exact ⟨v, v1, v2.mono hm (fun _ _ e => e)⟩
end
end Go.Abs

namespace Go.Abs
open Go
section
variable {P : Program} {T : TT} {r : Option Nat} {m : Nat} {Q : AX -> St -> Prop} {F : Fz} {μ : Mu} {w : World} {K : St -> Prop} {s : St}
def Nm (s : St) (k : Nat) : Prop := (∃ t sz n, Z1c s.env t = some (.o k sz n)) ∨ ∃ (t kb off : Nat) (d : D) (r sz n : Nat), Z1c s.env t = some (.b kb off) /\ Z1m s.H kb = some (.box d) /\ d.cells[r]? = some (.o k sz n)
theorem Zoe {k sz n : Nat} {v : Value} (h : VR F μ (.o k sz n) v) : μ k ≠ none := by
 cases h with
 | cl _ _ hc => cases hc
 | o _ _ _ b m cap h1 h2 h3 => rw [h1]; simp
 | oNil _ _ a h1 => rw [h1]; simp
theorem Nm.ne {k : Nat} {a : Act} (h : Nm s k) (hr : RL m F μ s a w) : μ k ≠ none := by
 rcases h with ⟨t, sz, n, h1⟩ | ⟨t, kb, off, d, r, sz, n, h1, h2, h3⟩
 ·obtain ⟨v, -, hv⟩ := hr.er.env t _ h1;exact Zoe hv
 ·obtain ⟨v, -, hv⟩ := hr.er.env t _ h1
  cases hv with
  | cl _ _ hc => cases hc
  | b _ _ b m hμ =>
   obtain ⟨v, -, -, h4⟩ := hr.hr.cells (Z7c h2) hμ 0 d rfl r _ h3;exact Zoe h4
end
end Go.Abs

namespace Go.Abs
open Go
section
variable {P : Program} {T : TT} {r : Option Nat} {m : Nat} {Q : AX -> St -> Prop}
def Zyy (m : Nat) (tgt : St) : AX -> St -> Prop
 | .normal, s => GS m (fun s' => s' = tgt) s
 | _, _ => False
theorem Zch {S : Stop} (hS : S = Zo P r m) {c : Code} {s : St} (tgt : St) (h1 : S.code c (Zyy m tgt) s) (h2 : Q .normal tgt) : S.code c Q s := by
 subst hS;refine Zs3 (Z94 h1 fun x s' hx => ?_)
 cases x with
 | normal => exact Zei (show GS m _ s' from hx) fun s2 e => by rw [e]; exact h2
 | _ => exact hx.elim
end
end Go.Abs

/- Part TxAG of the proofs about the benches of the accordion maker: see the last text of the claim for what is proved. -/
import Derived.Test.YtggilmnhgjofiaaGreatTxAF
set_option linter.unusedVariables false
set_option linter.unusedSimpArgs false
set_option linter.unnecessarySimpa false
set_option linter.constructorNameAsVariable false

namespace Go.Abs
open Go
def opt (x : Option D) (K : D -> Prop) : Prop := match x with | some d => K d | none => False
def Zi6 (A : Ar) (op : BinOp) (k : IntKind) (x y : Int) (K : D -> Prop) : Prop :=
 match op with
 | .add => (match k.signed with | true => A.fits k (A.add x y) /\ K (.v (.int k (A.add x y))) | false => K (.v (.int k (A.wrap k (A.add x y)))))
 | .sub => (match k.signed with | true => A.fits k (A.sub x y) /\ K (.v (.int k (A.sub x y))) | false => K (.v (.int k (A.wrap k (A.sub x y)))))
 | .mul => (match k.signed with | true => A.fits k (A.mul x y) /\ K (.v (.int k (A.mul x y))) | false => K (.v (.int k (A.wrap k (A.mul x y)))))
 | .quo => A.nz y /\ A.fits k (A.quo x y) /\ K (.v (.int k (A.quo x y)))
 | .rem => A.nz y /\ K (.v (.int k (A.rem x y)))
 | .and | .or | .xor | .andNot => K (.v (.int k (A.bits op k x y)))
 | .eql | .neq | .lss | .leq | .gtr | .geq => K (.v (.bool (A.cmp op x y)))
 | _ => False
def Zjk (A : Ar) (op : BinOp) (x y : ByteArray) (K : D -> Prop) : Prop :=
 match op with
 | .add => A.scatOK x y /\ K (.v (.string (A.scat x y)))
 | .eql => K (.v (.bool (A.seq x y)))
 | .neq => K (.v (.bool (A.bnot (A.seq x y))))
 | _ => False
structure NilAns (n : Nat) (K : Bool -> Prop) : Prop where
 out : ∀ b : Bool, (b = true -> n = 0) -> K b
def eqK (op : BinOp) (K : D -> Prop) (b : Bool) : Prop :=
 match op with
 | .eql => K (.v (.bool b))
 | .neq => K (.v (.bool (!b)))
 | _ => False
structure FlatEq (n : Nat) (xs ys : List D) (K : List Int -> List Int -> Prop) : Prop where
 out : ∃ a b : List Int, xs = a.map (fun x => .v (.int .i64 x)) /\ ys = b.map (fun x => .v (.int .i64 x)) /\ a.length = n /\ b.length = n /\ K a b
def Zbd (A : Ar) (T : TT) (op : BinOp) (t : TypeId) (K : D -> Prop) : D -> D -> Prop
 | .v (.int k x), .v (.int k' y) =>
  match op with
  | .shl | .shr => A.nneg y /\ K (.v (.int k (A.shift op k x y)))
  | _ => if k = k' then Zi6 A op k x y K else False
 | .v (.string x), .v (.string y) => Zjk A op x y K
 | .v (.bool x), .v (.bool y) =>
  match Z1d T t with
  | some e => (match e.kc, op with | 1, .eql => K (.v (.bool (A.beq x y))) | 1, .neq => K (.v (.bool (A.bnot (A.beq x y)))) | _, _ => False)
  | none => False
 | .sl _ es, .v (.slice none 0 0) =>
  match Z1d T t with
  | some e => (match e.kc with | 3 => NilAns (A.len es) (eqK op K) | _ => False)
  | none => False
 | .o _ _ n, .v (.slice none 0 0) =>
  match Z1d T t with
  | some e => (match e.kc with | 3 => NilAns n (eqK op K) | _ => False)
  | none => False
 | .v (.slice none 0 0), .v (.slice none 0 0) =>
  match Z1d T t with
  | some e => (match e.kc with | 3 => eqK op K true | _ => False)
  | none => False
 | .ifc _ _, .v .nilIface =>
  match Z1d T t with
  | some e => (match e.kc with | 7 => eqK op K false | _ => False)
  | none => False
 | .agg xs, .agg ys =>
  match Z1d T t with
  | some e => (match e.fl, e.agg with | some n, true => FlatEq n xs ys (fun a b => (match op with | .eql => K (.v (.bool (A.leq a b))) | .neq => K (.v (.bool (A.bnot (A.leq a b)))) | _ => False)) | _, _ => False)
  | none => False
 | _, _ => False
def unA (A : Ar) (op : UnOp) (K : D -> Prop) : D -> Prop
 | .v (.bool x) => (match op with | .not => K (.v (.bool (A.bnot x))) | _ => False)
 | .v (.int k x) => (match op with | .neg => A.fits k (A.neg x) /\ K (.v (.int k (A.neg x))) | _ => False)
 | _ => False
def Zeq (A : Ar) (T : TT) (src dst : TypeId) (K : D -> Prop) : D -> Prop
 | .v (.int _ n) =>
  match Z1d T src, Z1d T dst with
  | some e1, some e2 => (match e1.kc, e2.ik with | 10, some k => K (.v (.int k (A.wrap k n))) | _, _ => False)
  | _, _ => False
 | _ => False
def Zer (A : Ar) (n : Nat) (K : D -> Prop) : D -> Prop
 | .b k o => K (.b k (o + n))
 | .bs k o => K (.bs k (A.addN o n))
 | .p k sz i o => K (.p k sz i (o + n))
 | .ip sz es i o => K (.ip sz es i (o + n))
 | .cb d o => K (.cb d (o + n))
 | _ => False
def Zlq (A : Ar) (T : TT) (t : TypeId) (f : Nat) (K : D -> Prop) (d : D) : Prop :=
 match Z1d T t with
 | some e => (match e.fds[f]? with | some (off, size, _) => (match size with | 0 => False | _ + 1 => Zer A off K d) | none => False)
 | none => False
def Zds (agg : Bool) (off n : Nat) (cs : List D) (K : D -> Prop) : Prop :=
 match agg with
 | true => (match Nat.ble (off + n) cs.length with | true => K (.agg ((cs.drop off).take n)) | false => False)
 | false => (match Zi5 cs off with | some x => K x | none => False)
def Zbe (T : TT) (t : TypeId) (f : Nat) (K : D -> Prop) : D -> Prop
 | .agg cs => (match Z1d T t with | some e => (match e.fds[f]? with | some (off, size, 1) => Zds true off size cs K | some (off, size, 0) => Zds false off size cs K | _ => False) | none => False)
 | _ => False
def Zes (A : Ar) (esz : Nat) (lit : Bool) (i : Int) (K : D -> Prop) : D -> Prop
 | .b k o => (match lit with | true => K (.b k (o + i.toNat * esz)) | false => K (.bs k (A.addN o (A.mulN (A.tn i) esz))))
 | .bs k o => K (.bs k (A.addN o (A.mulN (A.tn i) esz)))
 | _ => False
def Zlr (A : Ar) (T : TT) (t : TypeId) (lit : Bool) (K : D -> Prop) : D -> D -> Prop
 | d, .v (.int _ i) =>
  match Z1d T t with
  | some e =>
   match e.el with
   | some (none, el) =>
    match Z1d T el with
    | some e2 =>
     match d with
     | .sl sz es => (match Nat.beq sz e2.size with | true => A.inb i (A.len es) /\ K (.ip sz es (A.tn i) 0) | false => False)
     | .o k sz n => (match Nat.beq sz e2.size with | true => A.inb i n /\ K (.p k sz (A.tn i) 0) | false => False)
     | _ => False
    | none => False
   | some (some n, el) =>
    match Z1d T el with
    | some e2 => A.inb i n /\ Zes A e2.size lit i K d
    | none => False
   | none => False
  | none => False
 | _, _ => False
def Z96 (A : Ar) (T : TT) (t : TypeId) (K : D -> Prop) : D -> D -> Prop
 | .v (.string s), .v (.int _ i) => (match Z1d T t with | some e => (match e.kc with | 2 => A.inb i (A.slen s) /\ K (.v (.int .u8 (A.sget s (A.tn i)))) | _ => False) | none => False)
 | .agg cs, .v (.int _ i) =>
  match Z1d T t with
  | some e => (match e.el with | some (some n, el) => (match Z1d T el with | some e2 => (match e2.agg, e2.size with | false, 1 => A.inb i n /\ Need (A.get cs (A.tn i)) K | _, _ => False) | none => False) | _ => False)
  | none => False
 | .arr cs, .v (.int _ i) =>
  match Z1d T t with
  | some e => (match e.el with | some (some n, el) => (match Z1d T el with | some e2 => (match e2.agg, e2.size with | false, 1 => A.inb i n /\ Need (A.get cs (A.tn i)) K | _, _ => False) | none => False) | _ => False)
  | none => False
 | _, _ => False
def Zp6 (i : Nat) (K : D -> Prop) : D -> Prop
 | .tup cs => opt (Zi5 cs i) K
 | _ => False
def Zqz : D -> Bool
 | .b _ _ | .bs _ _ | .p _ _ _ _ | .ip _ _ _ _ | .cb _ _ | .fn _ _ => true
 | _ => false
section
variable {P : Program} {T : TT} {F : Fz} {μ : Mu} {w : World} {K : D -> Prop}
theorem Z3d {x : Value} (ho : x.oneCell' = true) : VR F μ (.v x) x := .cl _ _ (.v _ ho)
theorem Zls {op : BinOp} {t : TypeId} {k : IntKind} {x y : Int} (h : Zi6 ar op k x y K) :
  ∃ d v, (binOp op t (.int k x) (.int k y)).run P w = .ok v w /\ VR F μ d v /\ K d := by
 cases op <;> simp only [Zi6] at h <;> try exact h.elim
 case add =>
  split at h
  ·obtain ⟨hf, hk⟩ := h;have hf : k.wrap (x + y) = x + y := hf;exact ⟨_, .int k (x + y), by simp [binOp, Op.intArith, hf], Z3d rfl, hk⟩
  ·exact ⟨_, _, by simp [binOp, Op.intArith]; rfl, Z3d rfl, h⟩
 case sub =>
  split at h
  ·obtain ⟨hf, hk⟩ := h;have hf : k.wrap (x - y) = x - y := hf;exact ⟨_, .int k (x - y), by simp [binOp, Op.intArith, hf], Z3d rfl, hk⟩
  ·exact ⟨_, _, by simp [binOp, Op.intArith]; rfl, Z3d rfl, h⟩
 case mul =>
  split at h
  ·obtain ⟨hf, hk⟩ := h;have hf : k.wrap (x * y) = x * y := hf;exact ⟨_, .int k (x * y), by simp [binOp, Op.intArith, hf], Z3d rfl, hk⟩
  ·exact ⟨_, _, by simp [binOp, Op.intArith]; rfl, Z3d rfl, h⟩
 case quo =>
  obtain ⟨hz, hf, hk⟩ := h;have hz : y ≠ 0 := hz;have hf : k.wrap (x.tdiv y) = x.tdiv y := hf;exact ⟨_, .int k (x.tdiv y), by simp [binOp, Op.intDiv, hz, hf], Z3d rfl, hk⟩
 case rem =>
  obtain ⟨hz, hk⟩ := h;have hz : y ≠ 0 := hz;exact ⟨_, .int k (x.tmod y), by simp [binOp, Op.intDiv, hz], Z3d rfl, hk⟩
 case and => exact ⟨_, .int k (Zc0 .and k x y), by simp [binOp, Op.intBits, Zc0], Z3d rfl, h⟩
 case or => exact ⟨_, .int k (Zc0 .or k x y), by simp [binOp, Op.intBits, Zc0], Z3d rfl, h⟩
 case xor => exact ⟨_, .int k (Zc0 .xor k x y), by simp [binOp, Op.intBits, Zc0], Z3d rfl, h⟩
 case andNot => exact ⟨_, .int k (Zc0 .andNot k x y), by simp [binOp, Op.intBits, Zc0], Z3d rfl, h⟩
 case eql => exact ⟨_, .bool (Z25 .eql x y), by simp [binOp, Op.intCmp, Z25], Z3d rfl, h⟩
 case neq => exact ⟨_, .bool (Z25 .neq x y), by simp [binOp, Op.intCmp, Z25], Z3d rfl, h⟩
 case lss => exact ⟨_, .bool (Z25 .lss x y), by simp [binOp, Op.intCmp, Z25], Z3d rfl, h⟩
 case leq => exact ⟨_, .bool (Z25 .leq x y), by simp [binOp, Op.intCmp, Z25], Z3d rfl, h⟩
 case gtr => exact ⟨_, .bool (Z25 .gtr x y), by simp [binOp, Op.intCmp, Z25], Z3d rfl, h⟩
 case geq => exact ⟨_, .bool (Z25 .geq x y), by simp [binOp, Op.intCmp, Z25], Z3d rfl, h⟩
theorem Zdt {op : BinOp} {t : TypeId} {k k' : IntKind} {x y : Int} (hop : op = .shl ∨ op = .shr) (h : ar.nneg y /\ K (.v (.int k (ar.shift op k x y)))) :
  ∃ d v, (binOp op t (.int k x) (.int k' y)).run P w = .ok v w /\ VR F μ d v /\ K d := by
 obtain ⟨h0, hk⟩ := h;have h0 : 0 <= y := h0;refine ⟨_, .int k (Zlp op k x y), ?_, Z3d rfl, hk⟩;rcases hop with rfl | rfl <;> simp [binOp, Op.shift, Zlp, show ¬ y < 0 by omega]
theorem Zlt {op : BinOp} {t : TypeId} {x y : ByteArray} (h : Zjk ar op x y K) :
  ∃ d v, (binOp op t (.string x) (.string y)).run P w = .ok v w /\ VR F μ d v /\ K d := by
 cases op <;> simp only [Zjk] at h <;> try exact h.elim
 case add =>
  obtain ⟨hf, hk⟩ := h;have hf : x.size + y.size <= 9223372036854775807 := hf;refine ⟨_, .string (x ++ y), ?_, Z3d rfl, hk⟩;have : (Op.stringOp .add x y).run P w = .ok (.string (x ++ y)) w := by
   unfold Op.stringOp;simp only [];rw [if_neg]
   ·rfl
   ·have : IntKind.i64.max = 9223372036854775807 := rfl;rw [this]; omega
  simpa [binOp] using this
 case eql => exact ⟨_, .bool (x.toList == y.toList), by simp [binOp, Op.stringOp], Z3d rfl, h⟩
 case neq => exact ⟨_, .bool (!(x.toList == y.toList)), by simp [binOp, Op.stringOp], Z3d rfl, h⟩
theorem Z1e (hT : TOK P T) {t : TypeId} {e : TE} (he : Z1d T t = some e) : ∃ d, P.underlying t = some d /\ Zaw d = e.kc /\ e.el = (match d with | .slice e => some (none, e) | .array n e => some (some n, e) | _ => none) /\
  (match d with | .int k => some k | _ => none) = e.ik := by
 obtain ⟨i, d, z, h1, h2, h3, h4, h5, h6, h7, h8, h9, h10, h11, h12, h13, -⟩ := hT.at he;exact ⟨d, h2, h13.symm, h10, h12.symm⟩
theorem Za8 {op : BinOp} {t : TypeId} {x y : Value} {b : Bool} (hx : ∀ op, op = .eql ∨ op = .neq -> (binOp op t x y).run P w = .ok (.bool (if op = .eql then b else !b)) w) (h : eqK op K b) :
  ∃ d v, (binOp op t x y).run P w = .ok v w /\ VR F μ d v /\ K d := by
 cases op <;> simp only [eqK] at h <;> try exact h.elim
 ·exact ⟨_, _, hx .eql (.inl rfl), Z3d rfl, h⟩
 ·exact ⟨_, _, hx .neq (.inr rfl), Z3d rfl, h⟩
theorem Zi7 {t : TypeId} {x y : Value} {b : Bool} (h1 : (Op.equal t x y).run P w = .ok b w) (hi : ∀ op : BinOp, op = .eql ∨ op = .neq -> binOp op t x y = (match op with | .eql => do pure (.bool (<- Op.equal t x y)) | _ => do pure (.bool (!(<- Op.equal t x y))))) :
  ∀ op, op = .eql ∨ op = .neq -> (binOp op t x y).run P w = .ok (.bool (if op = .eql then b else !b)) w := fun op ho => by
 rw [hi op ho];rcases ho with rfl | rfl <;> simp [h1]
theorem Zb2 (hT : TOK P T) {t : TypeId} {e : TE} (he : Z1d T t = some e) (hk : e.kc = 3) {a : Option Addr} {n c : Nat} : (Op.equal t (.slice a n c) (.slice none 0 0)).run P w = .ok a.isNone w := by
 obtain ⟨d, hd, hkc, -⟩ := Z1e hT he;rw [hk] at hkc;obtain ⟨e', rfl⟩ : ∃ e', d = .slice e' := by cases d <;> simp [Zaw] at hkc; exact ⟨_, rfl⟩
 unfold Op.equal Op.maxDepth Op.equalIn;rw [Sem.run_bind, run_underlying hd w]
 cases a <;> rfl
theorem Z8x (hT : TOK P T) {op : BinOp} {t : TypeId} {e : TE} (he : Z1d T t = some e) (hk : e.kc = 3) {a : Option Addr} {n c : Nat} (hn : a = none -> n = 0) (h : NilAns n (eqK op K)) :
  ∃ d v, (binOp op t (.slice a n c) (.slice none 0 0)).run P w = .ok v w /\ VR F μ d v /\ K d := by
 exact Za8 (b := a.isNone) (Zi7 (Zb2 hT he hk) fun op ho => by rcases ho with rfl | rfl <;> rfl) (h.out _ (fun ha => hn (by simpa using ha)))
theorem VR.sl_inv {sz : Nat} {es : List D} {v : Value} (h : VR F μ (.sl sz es) v) : ∃ a c, v = .slice a es.length c /\ (a = none -> es.length = 0) := by
 cases h with
 | cl _ _ h =>
  cases h with
  | slE _ a c => exact ⟨a, c, rfl, fun _ => rfl⟩
  | sl _ _ b o c val => exact ⟨_, c, rfl, fun h => by cases h⟩
theorem VR.o_inv {k sz n : Nat} {v : Value} (h : VR F μ (.o k sz n) v) : ∃ a c, v = .slice a n c /\ (a = none -> n = 0) := by
 cases h with
 | cl _ _ h => cases h
 | o _ _ _ b m cap h hc hm => exact ⟨_, cap, rfl, fun h => by cases h⟩
 | oNil _ _ a h => exact ⟨a, 0, rfl, fun _ => rfl⟩
theorem VR.ifc_inv {t : TypeId} {d : D} {v : Value} (h : VR F μ (.ifc t d) v) : ∃ x, v = .iface t x /\ VR F μ d x := by
 cases h with
 | cl _ _ h => cases h with | ifc _ _ x h => exact ⟨x, rfl, .cl _ _ h⟩
 | ifc _ _ x h => exact ⟨x, rfl, h⟩
theorem Zef (hT : TOK P T) {t : TypeId} {e : TE} (he : Z1d T t = some e) {n : Nat} (hf : e.fl = some n) : P.eqGuardType P.depth t = false /\ Z3e P 6 t = some n /\ e.agg = Z3j P t := by
 obtain ⟨i, d, z, h1, h2, h3, h4, h5, h6, h7, h8, h9, h10, h11, h12, h13, h14, h15, h16⟩ := hT.at he;rw [hf] at h16
 split at h16
 ·cases h16
 ·rename_i hg
  refine ⟨by simpa using hg, h16.symm, ?_⟩;rw [h6]; unfold Z3j Z8d; rw [h2]; cases d <;> rfl
theorem Z97 {a : List Int} {v : Value} (h : VR F μ (.agg (a.map (fun x => .v (.int .i64 x)))) v) : v = .agg (a.map (Value.int .i64)).toArray := by
 have : ∃ vs, v = .agg vs /\ (a.map (fun x => D.v (.int .i64 x))).length = vs.size /\ ∀ (i : Nat) (c : D) (u : Value), (a.map (fun x => D.v (.int .i64 x)))[i]? = some c -> vs[i]? = some u -> VR F μ c u := by
  cases h with
  | cl _ _ hc => cases hc with | agg _ vs hl hh _ => exact ⟨vs, rfl, hl, fun i c v h1 h2 => .cl _ _ (hh i c v h1 h2)⟩
  | agg _ vs hl hh _ => exact ⟨vs, rfl, hl, hh⟩
 obtain ⟨vs, rfl, hl, hr⟩ := this
 congr 1
 apply Array.ext'
 apply List.ext_getElem?
 intro i;rw [Array.getElem?_toList]
 by_cases hi : i < vs.size
 ·have hi' : i < a.length := by rw [List.length_map] at hl; omega
  have e1 := hr i (.v (.int .i64 a[i])) vs[i] (by simp [hi']) (Array.getElem?_eq_getElem hi);rw [Array.getElem?_eq_getElem hi, e1.v_inv];simp [hi']
 ·rw [Array.getElem?_eq_none (by omega), List.getElem?_eq_none (by simp at hl ⊢; omega)]
theorem Zlu (hT : TOK P T) {op : BinOp} {t : TypeId} {x y : D} {vx vy : Value} (hx : VR F μ x vx) (hy : VR F μ y vy) (h : Zbd ar T op t K x y) :
  ∃ d v, (binOp op t vx vy).run P w = .ok v w /\ VR F μ d v /\ K d := by
 unfold Zbd at h
 split at h
 ·obtain rfl := hx.v_inv;obtain rfl := hy.v_inv
  split at h
  ·exact Zdt (.inl rfl) h
  ·exact Zdt (.inr rfl) h
  ·split at h
   ·rename_i hk; subst hk; exact Zls h
   ·exact h.elim
 ·obtain rfl := hx.v_inv;obtain rfl := hy.v_inv;exact Zlt h
 ·obtain rfl := hx.v_inv;obtain rfl := hy.v_inv
  split at h
  ·rename_i e he
   obtain ⟨d, hd, hkc, -⟩ := Z1e hT he;have hb : e.kc = 1 -> ∀ a b : Bool, (Op.equal t (.bool a) (.bool b)).run P w = .ok (a == b) w := fun hk a b => by
    rw [hk] at hkc;obtain rfl : d = .bool := by cases d <;> simp [Zaw] at hkc; rfl
    unfold Op.equal Op.maxDepth Op.equalIn;rw [Sem.run_bind, run_underlying hd w];rfl
   split at h
   ·rename_i hk
    exact ⟨_, .bool _, by simp [binOp, hb hk, ar], Z3d rfl, h⟩
   ·rename_i hk
    exact ⟨_, .bool _, by simp [binOp, hb hk, ar], Z3d rfl, h⟩
   ·exact h.elim
  ·exact h.elim
 ·obtain rfl := hy.v_inv
  split at h
  ·rename_i e he
   split at h
   ·rename_i hk
    obtain ⟨a, c, rfl, ha⟩ := hx.sl_inv;exact Z8x hT he hk ha h
   ·exact h.elim
  ·exact h.elim
 ·obtain rfl := hy.v_inv
  split at h
  ·rename_i e he
   split at h
   ·rename_i hk
    obtain ⟨a, c, rfl, ha⟩ := hx.o_inv;exact Z8x hT he hk ha h
   ·exact h.elim
  ·exact h.elim
 ·obtain rfl := hx.v_inv;obtain rfl := hy.v_inv
  split at h
  ·rename_i e he
   split at h
   ·rename_i hk
    exact Za8 (b := true) (Zi7 (Zb2 hT he hk) fun op ho => by rcases ho with rfl | rfl <;> rfl) h
   ·exact h.elim
  ·exact h.elim
 ·obtain rfl := hy.v_inv;obtain ⟨x, rfl, -⟩ := hx.ifc_inv
  split at h
  ·rename_i e he
   split at h
   ·rename_i hk
    obtain ⟨d, hd, hkc, -⟩ := Z1e hT he;rw [hk] at hkc;obtain ⟨e', rfl⟩ : ∃ e', d = .interface e' := by cases d <;> simp [Zaw] at hkc; exact ⟨_, rfl⟩
    refine Za8 (b := false) (Zi7 ?_ fun op ho => by rcases ho with rfl | rfl <;> rfl) h;unfold Op.equal Op.maxDepth Op.equalIn;rw [Sem.run_bind, run_underlying hd w];rfl
   ·exact h.elim
  ·exact h.elim
 ·split at h
  ·rename_i e he
   split at h
   ·rename_i n hf ha
    obtain ⟨a, b, rfl, rfl, la, lb, hk⟩ := h.out;obtain ⟨f1, f2, f3⟩ := Zef hT he hf;rw [ha] at f3;have va := Z97 hx;have vb := Z97 hy;subst va; subst vb;have heq := Z5c 6 9994 t n f2 a b w la lb;rw [<- f3] at heq;simp only [Z1k, if_true] at heq
    split at hk
    ·exact ⟨_, .bool _, by rw [run_eql_struct]; rw [show (10000 : Nat) = 9994 + 6 from rfl, heq]; rfl, Z3d rfl, hk⟩
    ·exact ⟨_, .bool _, by rw [run_neq_struct]; rw [show (10000 : Nat) = 9994 + 6 from rfl, heq]; rfl, Z3d rfl, hk⟩
    ·exact hk.elim
   ·exact h.elim
  ·exact h.elim
 ·exact h.elim
theorem Zp7 {op : UnOp} {x : D} {vx : Value} (hx : VR F μ x vx) (h : unA ar op K x) : ∃ d v, (Op.unary op vx).run P w = .ok v w /\ VR F μ d v /\ K d := by
 unfold unA at h
 split at h
 ·obtain rfl := hx.v_inv
  split at h
  ·exact ⟨_, .bool _, by simp [Op.unary, ar], Z3d rfl, h⟩
  ·exact h.elim
 ·obtain rfl := hx.v_inv
  rename_i k x
  split at h
  ·obtain ⟨hf, hk⟩ := h;have hf : k.wrap (-x) = -x := hf;exact ⟨_, .int k (-x), by simp [Op.unary, Op.intArith, hf], Z3d rfl, hk⟩
  ·exact h.elim
 ·exact h.elim
theorem Zjl (hT : TOK P T) {src dst : TypeId} {x : D} {vx : Value} (hx : VR F μ x vx) (h : Zeq ar T src dst K x) : ∃ d v, (convert src dst vx).run P w = .ok v w /\ VR F μ d v /\ K d := by
 unfold Zeq at h
 split at h
 ·obtain rfl := hx.v_inv
  split at h
  ·rename_i n e1 e2 h1 h2
   split at h
   ·rename_i k hk1 hk2
    obtain ⟨d1, hd1, hc1, -⟩ := Z1e hT h1;obtain ⟨d2, hd2, -, -, hi2⟩ := Z1e hT h2;rw [hk1] at hc1;rw [hk2] at hi2;obtain ⟨k1, rfl⟩ : ∃ k1, d1 = .int k1 := by cases d1 <;> simp [Zaw] at hc1; exact ⟨_, rfl⟩
    obtain rfl : d2 = .int k := by cases d2 <;> simp at hi2; rw [hi2]
    refine ⟨_, .int k (k.wrap _), ?_, Z3d rfl, h⟩;unfold convert;rw [Sem.run_bind, run_underlying hd1 w];simp only [Result.andThen_ok, Sem.run_bind, run_underlying hd2 w];rfl
   ·exact h.elim
  ·exact h.elim
 ·exact h.elim
theorem Zi8 {n : Nat} {x : D} {vx : Value} (hx : VR F μ x vx) (h : Zer ar n K x) : ∃ d a, vx = .pointer (some a) /\ VR F μ d (.pointer (some (a.add n))) /\ K d := by
 unfold Zer at h
 split at h
 ·cases hx with
  | cl _ _ hc => cases hc
  | b _ _ b m hμ => exact ⟨_, _, rfl, by rw [add_lit]; exact .b _ _ b m hμ, h⟩
 ·cases hx with
  | cl _ _ hc => cases hc
  | bs _ _ b m hμ => exact ⟨_, _, rfl, by rw [add_lit]; exact .bs _ _ b m hμ, h⟩
 ·cases hx with
  | cl _ _ hc => cases hc
  | p _ _ _ _ b m hμ => exact ⟨_, _, rfl, by rw [add_lit, Nat.add_assoc]; exact .p _ _ _ _ b m hμ, h⟩
 ·cases hx with
  | cl _ _ hc => cases hc with | ip _ _ b o _ _ val hz hf hv => exact ⟨_, _, rfl, by rw [add_lit, Nat.add_assoc]; exact .cl _ _ (.ip _ _ b o _ _ val hz hf hv), h⟩
 ·cases hx with
  | cl _ _ hc => cases hc with | cb _ b o _ val hf hv => exact ⟨_, _, rfl, by rw [add_lit, Nat.add_assoc]; exact .cl _ _ (.cb _ b o _ val hf hv), h⟩
 ·exact h.elim
theorem Zlv (hT : TOK P T) {t : TypeId} {e : TE} (he : Z1d T t = some e) {f : Nat} {off size agg : Nat} (hf : e.fds[f]? = some (off, size, agg)) :
  ∃ fs fl, P.underlying t = some (.struct fs) /\ fs[f]? = some fl /\ fl.offset = off /\ P.cellsOf fl.type = size /\ ((P.underlying fl.type).map fun d => if Z8d d then 1 else 0).getD 2 = agg := by
 obtain ⟨i, d, z, h1, h2, h3, h4, h5, h6, h7, h8, h9, h10, h11, -⟩ := hT.at he;rw [h11] at hf
 cases d <;> try (simp at hf; done)
 rename_i fs
 simp only [List.getElem?_map, Option.map_eq_some_iff, Prod.mk.injEq, Array.getElem?_toList] at hf;obtain ⟨fl, h, e1, e2, e3⟩ := hf;exact ⟨fs, fl, h2, h, e1, e2, e3⟩
theorem run_sizeOf {t : TypeId} {n : Nat} (h : P.cellsOf t = n + 1) : (sizeOf t).run P w = .ok (n + 1) w := by
 unfold Program.cellsOf at h
 cases hq : P.info? t with
 | none => simp [hq] at h
 | some i => simp [hq] at h; simp [sizeOf, typeInfo, hq, h]
theorem Zlw (hT : TOK P T) {t : TypeId} {f : Nat} {x : D} {vx : Value} (hx : VR F μ x vx) (h : Zlq ar T t f K x) : ∃ d v, (Instr.fieldAt t vx f).run P w = .ok v w /\ VR F μ d v /\ K d := by
 unfold Zlq at h
 split at h
 ·rename_i e he
  split at h
  ·rename_i off size agg hf
   split at h
   ·exact h.elim
   ·rename_i n
    obtain ⟨fs, fl, h1, h2, rfl, h4, -⟩ := Zlv hT he hf;obtain ⟨d, a, rfl, hv, hk⟩ := Zi8 hx h;refine ⟨d, _, ?_, hv, hk⟩;unfold Instr.fieldAt;rw [Sem.run_bind, run_underlying h1 w];simp [h2, Instr.sureAddr, fieldPlace, run_sizeOf h4]
  ·exact h.elim
 ·exact h.elim
theorem Zjm {t : TypeId} {agg : Bool} {off n : Nat} {cs : List D} {vs : Array Value} (hl : cs.length = vs.size) (hv : ∀ (i : Nat) (c : D) (v : Value), cs[i]? = some c -> vs[i]? = some v -> VR F μ c v)
  (ho : ∀ (i : Nat) (v : Value), vs[i]? = some v -> v.oneCell' = true) (ha : (isAgg t).run P w = .ok agg w) (hn : agg = true -> (sizeOf t).run P w = .ok n w) (h : Zds agg off n cs K) : ∃ d v, (part t vs off).run P w = .ok v w /\ VR F μ d v /\ K d := by
 unfold Zds at h
 split at h
 ·split at h
  ·rename_i hb
   have hb := Nat.le_of_ble_eq_true hb;refine ⟨_, .agg (vs.extract off (off + n)), ?_, .agg _ _ (by simp; omega) (fun i c v hi hj => ?_) (fun i v hj => ?_), h⟩
   ·unfold part; rw [Sem.run_bind, ha]; simp [hn rfl]
   ·rw [List.getElem?_take] at hi;rw [Array.getElem?_extract] at hj
    split at hi
    ·rw [List.getElem?_drop] at hi
     split at hj
     ·exact hv _ _ _ hi hj
     ·cases hj
    ·cases hi
   ·rw [Array.getElem?_extract] at hj
    split at hj
    ·exact ho _ _ hj
    ·cases hj
  ·exact h.elim
 ·rw [Zc1] at h
  split at h
  ·rename_i x hx
   have hlt : off < vs.size := by have := (List.getElem?_eq_some_iff.1 hx).1; omega
   exact ⟨x, vs[off], by unfold part; rw [Sem.run_bind, ha]; simp [hlt], hv off x _ hx (Array.getElem?_eq_getElem hlt), h⟩
  ·exact h.elim
theorem VR.agg_inv {cs : List D} {v : Value} (h : VR F μ (.agg cs) v) : ∃ vs : Array Value, v = .agg vs /\ cs.length = vs.size /\ (∀ (i : Nat) (c : D) (v : Value), cs[i]? = some c -> vs[i]? = some v -> VR F μ c v) /\ (∀ (i : Nat) (v : Value), vs[i]? = some v -> v.oneCell' = true) := by
 cases h with
 | cl _ _ h => cases h with | agg _ vs hl hv ho => exact ⟨vs, rfl, hl, fun i c v h1 h2 => .cl _ _ (hv i c v h1 h2), ho⟩
 | agg _ vs hl hv ho => exact ⟨vs, rfl, hl, hv, ho⟩
theorem VR.arr_inv {cs : List D} {v : Value} (h : VR F μ (.arr cs) v) : ∃ vs : Array Value, v = .agg vs /\ cs.length = vs.size /\ (∀ (i : Nat) (c : D) (v : Value), cs[i]? = some c -> vs[i]? = some v -> VR F μ c v) /\ (∀ (i : Nat) (v : Value), vs[i]? = some v -> v.oneCell' = true) := by
 cases h with
 | cl _ _ h => cases h with | arr _ vs hl hv ho => exact ⟨vs, rfl, hl, fun i c v h1 h2 => .cl _ _ (hv i c v h1 h2), ho⟩
 | arr _ vs hl hv ho => exact ⟨vs, rfl, hl, hv, ho⟩
theorem VR.tup_inv {cs : List D} {v : Value} (h : VR F μ (.tup cs) v) : ∃ vs : Array Value, v = .tuple vs /\ cs.length = vs.size /\ (∀ (i : Nat) (c : D) (v : Value), cs[i]? = some c -> vs[i]? = some v -> VR F μ c v) := by
 cases h with
 | cl _ _ h => cases h with | tup _ vs hl hv => exact ⟨vs, rfl, hl, fun i c v h1 h2 => .cl _ _ (hv i c v h1 h2)⟩
 | tup _ vs hl hv => exact ⟨vs, rfl, hl, hv⟩
theorem Zi9 {t : TypeId} {d : TypeDesc} (h : P.underlying t = some d) : (isAgg t).run P w = .ok (Z8d d) w := by
 unfold isAgg; rw [Sem.run_bind, run_underlying h w]; cases d <;> rfl
theorem Zjn {t : TypeId} {d : TypeDesc} (h : P.underlying t = some d) : (sizeOf t).run P w = .ok (P.cellsOf t) w := by
 have : ∃ i, P.info? t = some i := by
  unfold Program.underlying at h
  split at h
  ·exact ⟨_, ‹_›⟩
  ·exact ⟨_, ‹_›⟩
  ·cases h
 obtain ⟨i, hi⟩ := this;simp [sizeOf, typeInfo, hi, Program.cellsOf]
theorem Zia (hT : TOK P T) {t : TypeId} {f : Nat} {x : D} {vx : Value} (hx : VR F μ x vx) (h : Zbe T t f K x) :
  ∃ d v, (Instr.field t vx f).run P w = .ok v w /\ VR F μ d v /\ K d := by
 have main : ∀ {cs : List D} {vs : Array Value} {e : TE} {off size : Nat} {agg : Bool}, Z1d T t = some e -> e.fds[f]? = some (off, size, if agg then 1 else 0) -> cs.length = vs.size ->
   (∀ (i : Nat) (c : D) (v : Value), cs[i]? = some c -> vs[i]? = some v -> VR F μ c v) -> (∀ (i : Nat) (v : Value), vs[i]? = some v -> v.oneCell' = true) -> Zds agg off size cs K ->
   ∃ d v, (Instr.field t (.agg vs) f).run P w = .ok v w /\ VR F μ d v /\ K d := fun {cs vs e off size agg} he hf hl hv ho h => by
  obtain ⟨fs, fl, h1, h2, rfl, rfl, h5⟩ := Zlv hT he hf;have hu : ∃ d, P.underlying fl.type = some d /\ Z8d d = agg := by
   cases hq : P.underlying fl.type with
   | none => rw [hq] at h5; cases agg <;> simp at h5
   | some d => rw [hq] at h5; refine ⟨d, rfl, ?_⟩; cases agg <;> cases hd : Z8d d <;> simp [hd] at h5 <;> rfl
  obtain ⟨d, hd, ha⟩ := hu;obtain ⟨x, v, g1, g2, g3⟩ := Zjm (P := P) (w := w) hl hv ho (by rw [<- ha]; exact Zi9 hd) (fun _ => Zjn hd) h;refine ⟨x, v, ?_, g2, g3⟩;unfold Instr.field;rw [Sem.run_bind, run_underlying h1 w];simp [h2, asAgg, g1]
 unfold Zbe at h
 split at h
 ·obtain ⟨vs, rfl, hl, hv, ho⟩ := hx.agg_inv
  split at h
  ·rename_i e he
   split at h
   ·rename_i hf; exact main he (agg := true) hf hl hv ho h
   ·rename_i hf; exact main he (agg := false) hf hl hv ho h
   ·exact h.elim
  ·exact h.elim
 ·exact h.elim
theorem Zlx {i : Nat} {x : D} {vx : Value} (hx : VR F μ x vx) (h : Zp6 i K x) : ∃ d v, (Instr.extract vx i).run P w = .ok v w /\ VR F μ d v /\ K d := by
 unfold Zp6 at h
 split at h
 ·obtain ⟨vs, rfl, hl, hv⟩ := hx.tup_inv;rw [Zc1] at h;unfold opt at h
  split at h
  ·rename_i d hd
   have hlt : i < vs.size := by have := (List.getElem?_eq_some_iff.1 hd).1; omega
   exact ⟨d, vs[i], by simp [Instr.extract, hlt], hv i d _ hd (Array.getElem?_eq_getElem hlt), h⟩
  ·exact h.elim
 ·exact h.elim
end
end Go.Abs

/- Part TxAC of the proofs about the benches of the accordion maker: see the last text of the claim for what is proved. -/
import Derived.Test.YthljpccegkmdnaaGreatDoorTxAB
set_option linter.unusedVariables false
set_option linter.unusedSimpArgs false
set_option linter.unnecessarySimpa false
set_option linter.constructorNameAsVariable false

namespace Go.Abs
open Go
def opt (x : Option D) (K : D -> Prop) : Prop := match x with | some d => K d | none => False
def Zi6 (A : Ar) (op : BinOp) (k : IntKind) (x y : Int) (K : D -> Prop) : Prop :=
 match op with
 | .add => (match k.signed with | true => A.fits k (A.add x y) /\ K (.v (.int k (A.add x y))) | false => K (.v (.int k (A.wrap k (A.add x y)))))
 | .sub => (match k.signed with | true => A.fits k (A.sub x y) /\ K (.v (.int k (A.sub x y))) | false => K (.v (.int k (A.wrap k (A.sub x y)))))
 | .mul => (match k.signed with | true => A.fits k (A.mul x y) /\ K (.v (.int k (A.mul x y))) | false => K (.v (.int k (A.wrap k (A.mul x y)))))
 | .quo => A.nz y /\ A.fits k (A.quo x y) /\ K (.v (.int k (A.quo x y)))
 | .rem => A.nz y /\ K (.v (.int k (A.rem x y)))
 | .and | .or | .xor | .andNot => K (.v (.int k (A.bits op k x y)))
 | .eql | .neq | .lss | .leq | .gtr | .geq => K (.v (.bool (A.cmp op x y)))
 | _ => False
def Zjk (A : Ar) (op : BinOp) (x y : ByteArray) (K : D -> Prop) : Prop :=
 match op with
 | .add => A.scatOK x y /\ K (.v (.string (A.scat x y)))
 | .eql => K (.v (.bool (A.seq x y)))
 | .neq => K (.v (.bool (A.bnot (A.seq x y))))
 | _ => False
structure NilAns (n : Nat) (K : Bool -> Prop) : Prop where
 out : ∀ b : Bool, (b = true -> n = 0) -> K b
def eqK (op : BinOp) (K : D -> Prop) (b : Bool) : Prop :=
 match op with
 | .eql => K (.v (.bool b))
 | .neq => K (.v (.bool (!b)))
 | _ => False
structure FlatEq (n : Nat) (xs ys : List D) (K : List Int -> List Int -> Prop) : Prop where
 out : ∃ a b : List Int, xs = a.map (fun x => .v (.int .i64 x)) /\ ys = b.map (fun x => .v (.int .i64 x)) /\ a.length = n /\ b.length = n /\ K a b
def Zbd (A : Ar) (T : TT) (op : BinOp) (t : TypeId) (K : D -> Prop) : D -> D -> Prop
 | .v (.int k x), .v (.int k' y) =>
  match op with
  | .shl | .shr => A.nneg y /\ K (.v (.int k (A.shift op k x y)))
  | _ => if k = k' then Zi6 A op k x y K else False
 | .v (.string x), .v (.string y) => Zjk A op x y K
 | .v (.bool x), .v (.bool y) =>
  match Z1d T t with
  | some e => (match e.kc, op with | 1, .eql => K (.v (.bool (A.beq x y))) | 1, .neq => K (.v (.bool (A.bnot (A.beq x y)))) | _, _ => False)
  | none => False
 | .sl _ es, .v (.slice none 0 0) =>
  match Z1d T t with
  | some e => (match e.kc with | 3 => NilAns (A.len es) (eqK op K) | _ => False)
  | none => False
 | .o _ _ n, .v (.slice none 0 0) =>
  match Z1d T t with
  | some e => (match e.kc with | 3 => NilAns n (eqK op K) | _ => False)
  | none => False
 | .v (.slice none 0 0), .v (.slice none 0 0) =>
  match Z1d T t with
  | some e => (match e.kc with | 3 => eqK op K true | _ => False)
  | none => False
 | .ifc _ _, .v .nilIface =>
  match Z1d T t with
  | some e => (match e.kc with | 7 => eqK op K false | _ => False)
  | none => False
 | .agg xs, .agg ys =>
  match Z1d T t with
  | some e => (match e.fl, e.agg with | some n, true => FlatEq n xs ys (fun a b => (match op with | .eql => K (.v (.bool (A.leq a b))) | .neq => K (.v (.bool (A.bnot (A.leq a b)))) | _ => False)) | _, _ => False)
  | none => False
 | _, _ => False
def unA (A : Ar) (op : UnOp) (K : D -> Prop) : D -> Prop
 | .v (.bool x) => (match op with | .not => K (.v (.bool (A.bnot x))) | _ => False)
 | .v (.int k x) => (match op with | .neg => A.fits k (A.neg x) /\ K (.v (.int k (A.neg x))) | _ => False)
 | _ => False
def Zeq (A : Ar) (T : TT) (src dst : TypeId) (K : D -> Prop) : D -> Prop
 | .v (.int _ n) =>
  match Z1d T src, Z1d T dst with
  | some e1, some e2 => (match e1.kc, e2.ik with | 10, some k => K (.v (.int k (A.wrap k n))) | _, _ => False)
  | _, _ => False
 | _ => False
def Zer (A : Ar) (n : Nat) (K : D -> Prop) : D -> Prop
 | .b k o => K (.b k (o + n))
 | .bs k o => K (.bs k (A.addN o n))
 | .p k sz i o => K (.p k sz i (o + n))
 | .ip sz es i o => K (.ip sz es i (o + n))
 | .cb d o => K (.cb d (o + n))
 | _ => False
def Zlq (A : Ar) (T : TT) (t : TypeId) (f : Nat) (K : D -> Prop) (d : D) : Prop :=
 match Z1d T t with
 | some e => (match e.fds[f]? with | some (off, size, _) => (match size with | 0 => False | _ + 1 => Zer A off K d) | none => False)
 | none => False
def Zds (agg : Bool) (off n : Nat) (cs : List D) (K : D -> Prop) : Prop :=
 match agg with
 | true => (match Nat.ble (off + n) cs.length with | true => K (.agg ((cs.drop off).take n)) | false => False)
 | false => (match Zi5 cs off with | some x => K x | none => False)
def Zbe (T : TT) (t : TypeId) (f : Nat) (K : D -> Prop) : D -> Prop
 | .agg cs => (match Z1d T t with | some e => (match e.fds[f]? with | some (off, size, 1) => Zds true off size cs K | some (off, size, 0) => Zds false off size cs K | _ => False) | none => False)
 | _ => False
def Zes (A : Ar) (esz : Nat) (lit : Bool) (i : Int) (K : D -> Prop) : D -> Prop
 | .b k o => (match lit with | true => K (.b k (o + i.toNat * esz)) | false => K (.bs k (A.addN o (A.mulN (A.tn i) esz))))
 | .bs k o => K (.bs k (A.addN o (A.mulN (A.tn i) esz)))
 | _ => False
def Zlr (A : Ar) (T : TT) (t : TypeId) (lit : Bool) (K : D -> Prop) : D -> D -> Prop
 | d, .v (.int _ i) =>
  match Z1d T t with
  | some e =>
   match e.el with
   | some (none, el) =>
    match Z1d T el with
    | some e2 =>
     match d with
     | .sl sz es => (match Nat.beq sz e2.size with | true => A.inb i (A.len es) /\ K (.ip sz es (A.tn i) 0) | false => False)
     | .o k sz n => (match Nat.beq sz e2.size with | true => A.inb i n /\ K (.p k sz (A.tn i) 0) | false => False)
     | _ => False
    | none => False
   | some (some n, el) =>
    match Z1d T el with
    | some e2 => A.inb i n /\ Zes A e2.size lit i K d
    | none => False
   | none => False
  | none => False
 | _, _ => False
def Z96 (A : Ar) (T : TT) (t : TypeId) (K : D -> Prop) : D -> D -> Prop
 | .v (.string s), .v (.int _ i) => (match Z1d T t with | some e => (match e.kc with | 2 => A.inb i (A.slen s) /\ K (.v (.int .u8 (A.sget s (A.tn i)))) | _ => False) | none => False)
 | .agg cs, .v (.int _ i) =>
  match Z1d T t with
  | some e => (match e.el with | some (some n, el) => (match Z1d T el with | some e2 => (match e2.agg, e2.size with | false, 1 => A.inb i n /\ Need (A.get cs (A.tn i)) K | _, _ => False) | none => False) | _ => False)
  | none => False
 | .arr cs, .v (.int _ i) =>
  match Z1d T t with
  | some e => (match e.el with | some (some n, el) => (match Z1d T el with | some e2 => (match e2.agg, e2.size with | false, 1 => A.inb i n /\ Need (A.get cs (A.tn i)) K | _, _ => False) | none => False) | _ => False)
  | none => False
 | _, _ => False
def Zp6 (i : Nat) (K : D -> Prop) : D -> Prop
 | .tup cs => opt (Zi5 cs i) K
 | _ => False
def Zqz : D -> Bool
 | .b _ _ | .bs _ _ | .p _ _ _ _ | .ip _ _ _ _ | .cb _ _ | .fn _ _ => true
 | _ => false
section
variable {P : Program} {T : TT} {F : Fz} {μ : Mu} {w : World} {K : D -> Prop}
theorem Z3d {x : Value} (ho : x.oneCell' = true) : VR F μ (.v x) x := .cl _ _ (.v _ ho)
theorem Zls {op : BinOp} {t : TypeId} {k : IntKind} {x y : Int} (h : Zi6 ar op k x y K) :
  ∃ d v, (binOp op t (.int k x) (.int k y)).run P w = .ok v w /\ VR F μ d v /\ K d := by
 cases op <;> simp only [Zi6] at h <;> try exact h.elim
 case add =>
  split at h
  ·obtain ⟨hf, hk⟩ := h;have hf : k.wrap (x + y) = x + y := hf;exact ⟨_, .int k (x + y), by simp [binOp, Op.intArith, hf], Z3d rfl, hk⟩
  ·exact ⟨_, _, by simp [binOp, Op.intArith]; rfl, Z3d rfl, h⟩
 case sub =>
  split at h
  ·obtain ⟨hf, hk⟩ := h;have hf : k.wrap (x - y) = x - y := hf;exact ⟨_, .int k (x - y), by simp [binOp, Op.intArith, hf], Z3d rfl, hk⟩
  ·exact ⟨_, _, by simp [binOp, Op.intArith]; rfl, Z3d rfl, h⟩
 case mul =>
  split at h
  ·obtain ⟨hf, hk⟩ := h;have hf : k.wrap (x * y) = x * y := hf;exact ⟨_, .int k (x * y), by simp [binOp, Op.intArith, hf], Z3d rfl, hk⟩
  ·exact ⟨_, _, by simp [binOp, Op.intArith]; rfl, Z3d rfl, h⟩
 case quo =>
  obtain ⟨hz, hf, hk⟩ := h;have hz : y ≠ 0 := hz;have hf : k.wrap (x.tdiv y) = x.tdiv y := hf;exact ⟨_, .int k (x.tdiv y), by simp [binOp, Op.intDiv, hz, hf], Z3d rfl, hk⟩
 case rem =>
  obtain ⟨hz, hk⟩ := h;have hz : y ≠ 0 := hz;exact ⟨_, .int k (x.tmod y), by simp [binOp, Op.intDiv, hz], Z3d rfl, hk⟩
 case and => exact ⟨_, .int k (Zc0 .and k x y), by simp [binOp, Op.intBits, Zc0], Z3d rfl, h⟩
 case or => exact ⟨_, .int k (Zc0 .or k x y), by simp [binOp, Op.intBits, Zc0], Z3d rfl, h⟩
 case xor => exact ⟨_, .int k (Zc0 .xor k x y), by simp [binOp, Op.intBits, Zc0], Z3d rfl, h⟩
 case andNot => exact ⟨_, .int k (Zc0 .andNot k x y), by simp [binOp, Op.intBits, Zc0], Z3d rfl, h⟩
 case eql => exact ⟨_, .bool (Z25 .eql x y), by simp [binOp, Op.intCmp, Z25], Z3d rfl, h⟩
 case neq => exact ⟨_, .bool (Z25 .neq x y), by simp [binOp, Op.intCmp, Z25], Z3d rfl, h⟩
 case lss => exact ⟨_, .bool (Z25 .lss x y), by simp [binOp, Op.intCmp, Z25], Z3d rfl, h⟩
 case leq => exact ⟨_, .bool (Z25 .leq x y), by simp [binOp, Op.intCmp, Z25], Z3d rfl, h⟩
 case gtr => exact ⟨_, .bool (Z25 .gtr x y), by simp [binOp, Op.intCmp, Z25], Z3d rfl, h⟩
 case geq => exact ⟨_, .bool (Z25 .geq x y), by simp [binOp, Op.intCmp, Z25], Z3d rfl, h⟩
theorem Zdt {op : BinOp} {t : TypeId} {k k' : IntKind} {x y : Int} (hop : op = .shl ∨ op = .shr) (h : ar.nneg y /\ K (.v (.int k (ar.shift op k x y)))) :
  ∃ d v, (binOp op t (.int k x) (.int k' y)).run P w = .ok v w /\ VR F μ d v /\ K d := by
 obtain ⟨h0, hk⟩ := h;have h0 : 0 <= y := h0;refine ⟨_, .int k (Zlp op k x y), ?_, Z3d rfl, hk⟩;rcases hop with rfl | rfl <;> simp [binOp, Op.shift, Zlp, show ¬ y < 0 by omega]
theorem Zlt {op : BinOp} {t : TypeId} {x y : ByteArray} (h : Zjk ar op x y K) :
  ∃ d v, (binOp op t (.string x) (.string y)).run P w = .ok v w /\ VR F μ d v /\ K d := by
 cases op <;> simp only [Zjk] at h <;> try exact h.elim
 case add =>
  obtain ⟨hf, hk⟩ := h;have hf : x.size + y.size <= 9223372036854775807 := hf;refine ⟨_, .string (x ++ y), ?_, Z3d rfl, hk⟩;have : (Op.stringOp .add x y).run P w = .ok (.string (x ++ y)) w := by
   unfold Op.stringOp;simp only [];rw [if_neg]
   ·rfl
   ·have : IntKind.i64.max = 9223372036854775807 := rfl;rw [this]; omega
  simpa [binOp] using this
 case eql => exact ⟨_, .bool (x.toList == y.toList), by simp [binOp, Op.stringOp], Z3d rfl, h⟩
 case neq => exact ⟨_, .bool (!(x.toList == y.toList)), by simp [binOp, Op.stringOp], Z3d rfl, h⟩
theorem Z1e (hT : TOK P T) {t : TypeId} {e : TE} (he : Z1d T t = some e) : ∃ d, P.underlying t = some d /\ Zaw d = e.kc /\ e.el = (match d with | .slice e => some (none, e) | .array n e => some (some n, e) | _ => none) /\
  (match d with | .int k => some k | _ => none) = e.ik := by
 obtain ⟨i, d, z, h1, h2, h3, h4, h5, h6, h7, h8, h9, h10, h11, h12, h13, -⟩ := hT.at he;exact ⟨d, h2, h13.symm, h10, h12.symm⟩
theorem Za8 {op : BinOp} {t : TypeId} {x y : Value} {b : Bool} (hx : ∀ op, op = .eql ∨ op = .neq -> (binOp op t x y).run P w = .ok (.bool (if op = .eql then b else !b)) w) (h : eqK op K b) :
  ∃ d v, (binOp op t x y).run P w = .ok v w /\ VR F μ d v /\ K d := by
 cases op <;> simp only [eqK] at h <;> try exact h.elim
 ·exact ⟨_, _, hx .eql (.inl rfl), Z3d rfl, h⟩
 ·exact ⟨_, _, hx .neq (.inr rfl), Z3d rfl, h⟩
theorem Zi7 {t : TypeId} {x y : Value} {b : Bool} (h1 : (Op.equal t x y).run P w = .ok b w) (hi : ∀ op : BinOp, op = .eql ∨ op = .neq -> binOp op t x y = (match op with | .eql => do pure (.bool (<- Op.equal t x y)) | _ => do pure (.bool (!(<- Op.equal t x y))))) :
  ∀ op, op = .eql ∨ op = .neq -> (binOp op t x y).run P w = .ok (.bool (if op = .eql then b else !b)) w := fun op ho => by
 rw [hi op ho];rcases ho with rfl | rfl <;> simp [h1]
theorem Zb2 (hT : TOK P T) {t : TypeId} {e : TE} (he : Z1d T t = some e) (hk : e.kc = 3) {a : Option Addr} {n c : Nat} : (Op.equal t (.slice a n c) (.slice none 0 0)).run P w = .ok a.isNone w := by
 obtain ⟨d, hd, hkc, -⟩ := Z1e hT he;rw [hk] at hkc;obtain ⟨e', rfl⟩ : ∃ e', d = .slice e' := by cases d <;> simp [Zaw] at hkc; exact ⟨_, rfl⟩
 unfold Op.equal Op.maxDepth Op.equalIn;rw [Sem.run_bind, run_underlying hd w]
 cases a <;> rfl
theorem Z8x (hT : TOK P T) {op : BinOp} {t : TypeId} {e : TE} (he : Z1d T t = some e) (hk : e.kc = 3) {a : Option Addr} {n c : Nat} (hn : a = none -> n = 0) (h : NilAns n (eqK op K)) :
  ∃ d v, (binOp op t (.slice a n c) (.slice none 0 0)).run P w = .ok v w /\ VR F μ d v /\ K d := by
 exact Za8 (b := a.isNone) (Zi7 (Zb2 hT he hk) fun op ho => by rcases ho with rfl | rfl <;> rfl) (h.out _ (fun ha => hn (by simpa using ha)))
theorem VR.sl_inv {sz : Nat} {es : List D} {v : Value} (h : VR F μ (.sl sz es) v) : ∃ a c, v = .slice a es.length c /\ (a = none -> es.length = 0) := by
 cases h with
 | cl _ _ h =>
  cases h with
  | slE _ a c => exact ⟨a, c, rfl, fun _ => rfl⟩
  | sl _ _ b o c val => exact ⟨_, c, rfl, fun h => by cases h⟩
theorem VR.o_inv {k sz n : Nat} {v : Value} (h : VR F μ (.o k sz n) v) : ∃ a c, v = .slice a n c /\ (a = none -> n = 0) := by
 cases h with
 | cl _ _ h => cases h
 | o _ _ _ b m cap h hc hm => exact ⟨_, cap, rfl, fun h => by cases h⟩
 | oNil _ _ a h => exact ⟨a, 0, rfl, fun _ => rfl⟩
theorem VR.ifc_inv {t : TypeId} {d : D} {v : Value} (h : VR F μ (.ifc t d) v) : ∃ x, v = .iface t x /\ VR F μ d x := by
 cases h with
 | cl _ _ h => cases h with | ifc _ _ x h => exact ⟨x, rfl, .cl _ _ h⟩
 | ifc _ _ x h => exact ⟨x, rfl, h⟩
theorem Zef (hT : TOK P T) {t : TypeId} {e : TE} (he : Z1d T t = some e) {n : Nat} (hf : e.fl = some n) : P.eqGuardType P.depth t = false /\ Z3e P 6 t = some n /\ e.agg = Z3j P t := by
 obtain ⟨i, d, z, h1, h2, h3, h4, h5, h6, h7, h8, h9, h10, h11, h12, h13, h14, h15, h16⟩ := hT.at he;rw [hf] at h16
 split at h16
 ·cases h16
 ·rename_i hg
  refine ⟨by simpa using hg, h16.symm, ?_⟩;rw [h6]; unfold Z3j Z8d; rw [h2]; cases d <;> rfl
theorem Z97 {a : List Int} {v : Value} (h : VR F μ (.agg (a.map (fun x => .v (.int .i64 x)))) v) : v = .agg (a.map (Value.int .i64)).toArray := by
 have : ∃ vs, v = .agg vs /\ (a.map (fun x => D.v (.int .i64 x))).length = vs.size /\ ∀ (i : Nat) (c : D) (u : Value), (a.map (fun x => D.v (.int .i64 x)))[i]? = some c -> vs[i]? = some u -> VR F μ c u := by
  cases h with
  | cl _ _ hc => cases hc with | agg _ vs hl hh _ => exact ⟨vs, rfl, hl, fun i c v h1 h2 => .cl _ _ (hh i c v h1 h2)⟩
  | agg _ vs hl hh _ => exact ⟨vs, rfl, hl, hh⟩
 obtain ⟨vs, rfl, hl, hr⟩ := this
 congr 1
 apply Array.ext'
 apply List.ext_getElem?
 intro i;rw [Array.getElem?_toList]
 by_cases hi : i < vs.size
 ·have hi' : i < a.length := by rw [List.length_map] at hl; omega
  have e1 := hr i (.v (.int .i64 a[i])) vs[i] (by simp [hi']) (Array.getElem?_eq_getElem hi);rw [Array.getElem?_eq_getElem hi, e1.v_inv];simp [hi']
 ·rw [Array.getElem?_eq_none (by omega), List.getElem?_eq_none (by simp at hl ⊢; omega)]
theorem Zlu (hT : TOK P T) {op : BinOp} {t : TypeId} {x y : D} {vx vy : Value} (hx : VR F μ x vx) (hy : VR F μ y vy) (h : Zbd ar T op t K x y) :
  ∃ d v, (binOp op t vx vy).run P w = .ok v w /\ VR F μ d v /\ K d := by
 unfold Zbd at h
 split at h
 ·obtain rfl := hx.v_inv;obtain rfl := hy.v_inv
  split at h
  ·exact Zdt (.inl rfl) h
  ·exact Zdt (.inr rfl) h
  ·split at h
   ·rename_i hk; subst hk; exact Zls h
   ·exact h.elim
 ·obtain rfl := hx.v_inv;obtain rfl := hy.v_inv;exact Zlt h
 ·obtain rfl := hx.v_inv;obtain rfl := hy.v_inv
  split at h
  ·rename_i e he
   obtain ⟨d, hd, hkc, -⟩ := Z1e hT he;have hb : e.kc = 1 -> ∀ a b : Bool, (Op.equal t (.bool a) (.bool b)).run P w = .ok (a == b) w := fun hk a b => by
    rw [hk] at hkc;obtain rfl : d = .bool := by cases d <;> simp [Zaw] at hkc; rfl
    unfold Op.equal Op.maxDepth Op.equalIn;rw [Sem.run_bind, run_underlying hd w];rfl
   split at h
   ·rename_i hk
    exact ⟨_, .bool _, by simp [binOp, hb hk, ar], Z3d rfl, h⟩
   ·rename_i hk
    exact ⟨_, .bool _, by simp [binOp, hb hk, ar], Z3d rfl, h⟩
   ·exact h.elim
  ·exact h.elim
 ·obtain rfl := hy.v_inv
  split at h
  ·rename_i e he
   split at h
   ·rename_i hk
    obtain ⟨a, c, rfl, ha⟩ := hx.sl_inv;exact Z8x hT he hk ha h
   ·exact h.elim
  ·exact h.elim
 ·obtain rfl := hy.v_inv
  split at h
  ·rename_i e he
   split at h
   ·rename_i hk
    obtain ⟨a, c, rfl, ha⟩ := hx.o_inv;exact Z8x hT he hk ha h
   ·exact h.elim
  ·exact h.elim
 ·obtain rfl := hx.v_inv;obtain rfl := hy.v_inv
  split at h
  ·rename_i e he
   split at h
   ·rename_i hk
    exact Za8 (b := true) (Zi7 (Zb2 hT he hk) fun op ho => by rcases ho with rfl | rfl <;> rfl) h
   ·exact h.elim
  ·exact h.elim
 ·obtain rfl := hy.v_inv;obtain ⟨x, rfl, -⟩ := hx.ifc_inv
  split at h
  ·rename_i e he
   split at h
   ·rename_i hk
    obtain ⟨d, hd, hkc, -⟩ := Z1e hT he;rw [hk] at hkc;obtain ⟨e', rfl⟩ : ∃ e', d = .interface e' := by cases d <;> simp [Zaw] at hkc; exact ⟨_, rfl⟩
    refine Za8 (b := false) (Zi7 ?_ fun op ho => by rcases ho with rfl | rfl <;> rfl) h;unfold Op.equal Op.maxDepth Op.equalIn;rw [Sem.run_bind, run_underlying hd w];rfl
   ·exact h.elim
  ·exact h.elim
 ·split at h
  ·rename_i e he
   split at h
   ·rename_i n hf ha
    obtain ⟨a, b, rfl, rfl, la, lb, hk⟩ := h.out;obtain ⟨f1, f2, f3⟩ := Zef hT he hf;rw [ha] at f3;have va := Z97 hx;have vb := Z97 hy;subst va; subst vb;have heq := Z5c 6 9994 t n f2 a b w la lb;rw [<- f3] at heq;simp only [Z1k, if_true] at heq
    split at hk
    ·exact ⟨_, .bool _, by rw [run_eql_struct]; rw [show (10000 : Nat) = 9994 + 6 from rfl, heq]; rfl, Z3d rfl, hk⟩
    ·exact ⟨_, .bool _, by rw [run_neq_struct]; rw [show (10000 : Nat) = 9994 + 6 from rfl, heq]; rfl, Z3d rfl, hk⟩
    ·exact hk.elim
   ·exact h.elim
  ·exact h.elim
 ·exact h.elim
theorem Zp7 {op : UnOp} {x : D} {vx : Value} (hx : VR F μ x vx) (h : unA ar op K x) : ∃ d v, (Op.unary op vx).run P w = .ok v w /\ VR F μ d v /\ K d := by
 unfold unA at h
 split at h
 ·obtain rfl := hx.v_inv
  split at h
  ·exact ⟨_, .bool _, by simp [Op.unary, ar], Z3d rfl, h⟩
  ·exact h.elim
 ·obtain rfl := hx.v_inv
  rename_i k x
  split at h
  ·obtain ⟨hf, hk⟩ := h;have hf : k.wrap (-x) = -x := hf;exact ⟨_, .int k (-x), by simp [Op.unary, Op.intArith, hf], Z3d rfl, hk⟩
  ·exact h.elim
 ·exact h.elim
theorem Zjl (hT : TOK P T) {src dst : TypeId} {x : D} {vx : Value} (hx : VR F μ x vx) (h : Zeq ar T src dst K x) : ∃ d v, (convert src dst vx).run P w = .ok v w /\ VR F μ d v /\ K d := by
 unfold Zeq at h
 split at h
 ·obtain rfl := hx.v_inv
  split at h
  ·rename_i n e1 e2 h1 h2
   split at h
   ·rename_i k hk1 hk2
    obtain ⟨d1, hd1, hc1, -⟩ := Z1e hT h1;obtain ⟨d2, hd2, -, -, hi2⟩ := Z1e hT h2;rw [hk1] at hc1;rw [hk2] at hi2;obtain ⟨k1, rfl⟩ : ∃ k1, d1 = .int k1 := by cases d1 <;> simp [Zaw] at hc1; exact ⟨_, rfl⟩
    obtain rfl : d2 = .int k := by cases d2 <;> simp at hi2; rw [hi2]
    refine ⟨_, .int k (k.wrap _), ?_, Z3d rfl, h⟩;unfold convert;rw [Sem.run_bind, run_underlying hd1 w];simp only [Result.andThen_ok, Sem.run_bind, run_underlying hd2 w];rfl
   ·exact h.elim
  ·exact h.elim
 ·exact h.elim
theorem Zi8 {n : Nat} {x : D} {vx : Value} (hx : VR F μ x vx) (h : Zer ar n K x) : ∃ d a, vx = .pointer (some a) /\ VR F μ d (.pointer (some (a.add n))) /\ K d := by
 unfold Zer at h
 split at h
 ·cases hx with
  | cl _ _ hc => cases hc
  | b _ _ b m hμ => exact ⟨_, _, rfl, by rw [add_lit]; exact .b _ _ b m hμ, h⟩
 ·cases hx with
  | cl _ _ hc => cases hc
  | bs _ _ b m hμ => exact ⟨_, _, rfl, by rw [add_lit]; exact .bs _ _ b m hμ, h⟩
 ·cases hx with
  | cl _ _ hc => cases hc
  | p _ _ _ _ b m hμ => exact ⟨_, _, rfl, by rw [add_lit, Nat.add_assoc]; exact .p _ _ _ _ b m hμ, h⟩
 ·cases hx with
  | cl _ _ hc => cases hc with | ip _ _ b o _ _ val hz hf hv => exact ⟨_, _, rfl, by rw [add_lit, Nat.add_assoc]; exact .cl _ _ (.ip _ _ b o _ _ val hz hf hv), h⟩
 ·cases hx with
  | cl _ _ hc => cases hc with | cb _ b o _ val hf hv => exact ⟨_, _, rfl, by rw [add_lit, Nat.add_assoc]; exact .cl _ _ (.cb _ b o _ val hf hv), h⟩
 ·exact h.elim
theorem Zlv (hT : TOK P T) {t : TypeId} {e : TE} (he : Z1d T t = some e) {f : Nat} {off size agg : Nat} (hf : e.fds[f]? = some (off, size, agg)) :
  ∃ fs fl, P.underlying t = some (.struct fs) /\ fs[f]? = some fl /\ fl.offset = off /\ P.cellsOf fl.type = size /\ ((P.underlying fl.type).map fun d => if Z8d d then 1 else 0).getD 2 = agg := by
 obtain ⟨i, d, z, h1, h2, h3, h4, h5, h6, h7, h8, h9, h10, h11, -⟩ := hT.at he;rw [h11] at hf
 cases d <;> try (simp at hf; done)
 rename_i fs
 simp only [List.getElem?_map, Option.map_eq_some_iff, Prod.mk.injEq, Array.getElem?_toList] at hf;obtain ⟨fl, h, e1, e2, e3⟩ := hf;exact ⟨fs, fl, h2, h, e1, e2, e3⟩
theorem run_sizeOf {t : TypeId} {n : Nat} (h : P.cellsOf t = n + 1) : (sizeOf t).run P w = .ok (n + 1) w := by
 unfold Program.cellsOf at h
 cases hq : P.info? t with
 | none => simp [hq] at h
 | some i => simp [hq] at h; simp [sizeOf, typeInfo, hq, h]
theorem Zlw (hT : TOK P T) {t : TypeId} {f : Nat} {x : D} {vx : Value} (hx : VR F μ x vx) (h : Zlq ar T t f K x) : ∃ d v, (Instr.fieldAt t vx f).run P w = .ok v w /\ VR F μ d v /\ K d := by
 unfold Zlq at h
 split at h
 ·rename_i e he
  split at h
  ·rename_i off size agg hf
   split at h
   ·exact h.elim
   ·rename_i n
    obtain ⟨fs, fl, h1, h2, rfl, h4, -⟩ := Zlv hT he hf;obtain ⟨d, a, rfl, hv, hk⟩ := Zi8 hx h;refine ⟨d, _, ?_, hv, hk⟩;unfold Instr.fieldAt;rw [Sem.run_bind, run_underlying h1 w];simp [h2, Instr.sureAddr, fieldPlace, run_sizeOf h4]
  ·exact h.elim
 ·exact h.elim
theorem Zjm {t : TypeId} {agg : Bool} {off n : Nat} {cs : List D} {vs : Array Value} (hl : cs.length = vs.size) (hv : ∀ (i : Nat) (c : D) (v : Value), cs[i]? = some c -> vs[i]? = some v -> VR F μ c v)
  (ho : ∀ (i : Nat) (v : Value), vs[i]? = some v -> v.oneCell' = true) (ha : (isAgg t).run P w = .ok agg w) (hn : agg = true -> (sizeOf t).run P w = .ok n w) (h : Zds agg off n cs K) : ∃ d v, (part t vs off).run P w = .ok v w /\ VR F μ d v /\ K d := by
 unfold Zds at h
 split at h
 ·split at h
  ·rename_i hb
   have hb := Nat.le_of_ble_eq_true hb;refine ⟨_, .agg (vs.extract off (off + n)), ?_, .agg _ _ (by simp; omega) (fun i c v hi hj => ?_) (fun i v hj => ?_), h⟩
   ·unfold part; rw [Sem.run_bind, ha]; simp [hn rfl]
   ·rw [List.getElem?_take] at hi;rw [Array.getElem?_extract] at hj
    split at hi
    ·rw [List.getElem?_drop] at hi
     split at hj
     ·exact hv _ _ _ hi hj
     ·cases hj
    ·cases hi
   ·rw [Array.getElem?_extract] at hj
    split at hj
    ·exact ho _ _ hj
    ·cases hj
  ·exact h.elim
 ·rw [Zc1] at h
  split at h
  ·rename_i x hx
   have hlt : off < vs.size := by have := (List.getElem?_eq_some_iff.1 hx).1; omega
   exact ⟨x, vs[off], by unfold part; rw [Sem.run_bind, ha]; simp [hlt], hv off x _ hx (Array.getElem?_eq_getElem hlt), h⟩
  ·exact h.elim
theorem VR.agg_inv {cs : List D} {v : Value} (h : VR F μ (.agg cs) v) : ∃ vs : Array Value, v = .agg vs /\ cs.length = vs.size /\ (∀ (i : Nat) (c : D) (v : Value), cs[i]? = some c -> vs[i]? = some v -> VR F μ c v) /\ (∀ (i : Nat) (v : Value), vs[i]? = some v -> v.oneCell' = true) := by
 cases h with
 | cl _ _ h => cases h with | agg _ vs hl hv ho => exact ⟨vs, rfl, hl, fun i c v h1 h2 => .cl _ _ (hv i c v h1 h2), ho⟩
 | agg _ vs hl hv ho => exact ⟨vs, rfl, hl, hv, ho⟩
theorem VR.arr_inv {cs : List D} {v : Value} (h : VR F μ (.arr cs) v) : ∃ vs : Array Value, v = .agg vs /\ cs.length = vs.size /\ (∀ (i : Nat) (c : D) (v : Value), cs[i]? = some c -> vs[i]? = some v -> VR F μ c v) /\ (∀ (i : Nat) (v : Value), vs[i]? = some v -> v.oneCell' = true) := by
 cases h with
 | cl _ _ h => cases h with | arr _ vs hl hv ho => exact ⟨vs, rfl, hl, fun i c v h1 h2 => .cl _ _ (hv i c v h1 h2), ho⟩
 | arr _ vs hl hv ho => exact ⟨vs, rfl, hl, hv, ho⟩
theorem VR.tup_inv {cs : List D} {v : Value} (h : VR F μ (.tup cs) v) : ∃ vs : Array Value, v = .tuple vs /\ cs.length = vs.size /\ (∀ (i : Nat) (c : D) (v : Value), cs[i]? = some c -> vs[i]? = some v -> VR F μ c v) := by
 cases h with
 | cl _ _ h => cases h with | tup _ vs hl hv => exact ⟨vs, rfl, hl, fun i c v h1 h2 => .cl _ _ (hv i c v h1 h2)⟩
 | tup _ vs hl hv => exact ⟨vs, rfl, hl, hv⟩
theorem Zi9 {t : TypeId} {d : TypeDesc} (h : P.underlying t = some d) : (isAgg t).run P w = .ok (Z8d d) w := by
 unfold isAgg; rw [Sem.run_bind, run_underlying h w]; cases d <;> rfl
theorem Zjn {t : TypeId} {d : TypeDesc} (h : P.underlying t = some d) : (sizeOf t).run P w = .ok (P.cellsOf t) w := by
 have : ∃ i, P.info? t = some i := by
  unfold Program.underlying at h
  split at h
  ·exact ⟨_, ‹_›⟩
  ·exact ⟨_, ‹_›⟩
  ·cases h
 obtain ⟨i, hi⟩ := this;simp [sizeOf, typeInfo, hi, Program.cellsOf]
theorem Zia (hT : TOK P T) {t : TypeId} {f : Nat} {x : D} {vx : Value} (hx : VR F μ x vx) (h : Zbe T t f K x) :
  ∃ d v, (Instr.field t vx f).run P w = .ok v w /\ VR F μ d v /\ K d := by
 have main : ∀ {cs : List D} {vs : Array Value} {e : TE} {off size : Nat} {agg : Bool}, Z1d T t = some e -> e.fds[f]? = some (off, size, if agg then 1 else 0) -> cs.length = vs.size ->
   (∀ (i : Nat) (c : D) (v : Value), cs[i]? = some c -> vs[i]? = some v -> VR F μ c v) -> (∀ (i : Nat) (v : Value), vs[i]? = some v -> v.oneCell' = true) -> Zds agg off size cs K ->
   ∃ d v, (Instr.field t (.agg vs) f).run P w = .ok v w /\ VR F μ d v /\ K d := fun {cs vs e off size agg} he hf hl hv ho h => by
  obtain ⟨fs, fl, h1, h2, rfl, rfl, h5⟩ := Zlv hT he hf;have hu : ∃ d, P.underlying fl.type = some d /\ Z8d d = agg := by
   cases hq : P.underlying fl.type with
   | none => rw [hq] at h5; cases agg <;> simp at h5
   | some d => rw [hq] at h5; refine ⟨d, rfl, ?_⟩; cases agg <;> cases hd : Z8d d <;> simp [hd] at h5 <;> rfl
  obtain ⟨d, hd, ha⟩ := hu;obtain ⟨x, v, g1, g2, g3⟩ := Zjm (P := P) (w := w) hl hv ho (by rw [<- ha]; exact Zi9 hd) (fun _ => Zjn hd) h;refine ⟨x, v, ?_, g2, g3⟩;unfold Instr.field;rw [Sem.run_bind, run_underlying h1 w];simp [h2, asAgg, g1]
 unfold Zbe at h
 split at h
 ·obtain ⟨vs, rfl, hl, hv, ho⟩ := hx.agg_inv
  split at h
  ·rename_i e he
   split at h
   ·rename_i hf; exact main he (agg := true) hf hl hv ho h
   ·rename_i hf; exact main he (agg := false) hf hl hv ho h
   ·exact h.elim
  ·exact h.elim
 ·exact h.elim
theorem Zlx {i : Nat} {x : D} {vx : Value} (hx : VR F μ x vx) (h : Zp6 i K x) : ∃ d v, (Instr.extract vx i).run P w = .ok v w /\ VR F μ d v /\ K d := by
 unfold Zp6 at h
 split at h
 ·obtain ⟨vs, rfl, hl, hv⟩ := hx.tup_inv;rw [Zc1] at h;unfold opt at h
  split at h
  ·rename_i d hd
   have hlt : i < vs.size := by have := (List.getElem?_eq_some_iff.1 hd).1; omega
   exact ⟨d, vs[i], by simp [Instr.extract, hlt], hv i d _ hd (Array.getElem?_eq_getElem hlt), h⟩
  ·exact h.elim
 ·exact h.elim
end
end Go.Abs

namespace Go.Abs
open Go
def Zjo (K : D -> Prop) (c a b : Option D) : Prop :=
 match c with
 | some (.v (.bool true)) => opt a K
 | some (.v (.bool false)) => opt b K
 | _ => False
def Zly (A : Ar) (T : TT) (t : TypeId) (K : D -> Prop) (d : D) : Prop :=
 match Z1d T t with
 | some e =>
  match e.kc, d with
  | 3, .sl _ es => K (.v (.int .i64 (A.oi (A.len es))))
  | 3, .o _ _ n => K (.v (.int .i64 (A.oi n)))
  | 3, .v (.slice none 0 0) => K (.v (.int .i64 0))
  | 2, .v (.string s) => K (.v (.int .i64 (A.oi (A.slen s))))
  | _, _ => False
 | none => False
def mm (A : Ar) (mx : Bool) (k : IntKind) (x : Int) (K : D -> Prop) : List (Option D) -> Prop
 | [] => K (.v (.int k x))
 | some (.v (.int k' y)) :: r => if k = k' then (match mx with | true => mm A mx k (A.max x y) K r | false => mm A mx k (A.min x y) K r) else False
 | _ :: _ => False
def mmA (A : Ar) (mx : Bool) (K : D -> Prop) : List (Option D) -> Prop
 | some (.v (.int k x)) :: r => mm A mx k x K r
 | _ => False
def Z34 : List (Option D) -> Option (List D)
 | [] => some []
 | some d :: r => (match Z34 r with | some l => some (d :: l) | none => none)
 | none :: _ => none
def Zlz (K : D -> Prop) (fn : Fn) (first : Array Operand) (caps : List (Option D)) : Prop :=
 match fn, first.toList, Z34 caps with
 | .func f, [], some cs => K (.fn f cs)
 | _, _, _ => False
def Zm0 (T : TT) (t : TypeId) (K : D -> Prop) (d : D) : Prop :=
 match Z1d T t with
 | some e => (match e.kc with | 7 => False | _ => K (.ifc t d))
 | none => False
def intOf : Option D -> Option Int
 | some (.v (.int _ n)) => some n
 | _ => none
def Zjp (A : Ar) (T : TT) (t : TypeId) (lo hi : Option (Option D)) (K : D -> Prop) : D -> Prop
 | .sl sz es =>
  match Z1d T t with
  | some e =>
   match e.el with
   | some (none, el) =>
    match Z1d T el with
    | some e2 =>
     match Nat.beq sz e2.size, lo, hi with
     | true, none, none => K (.sl sz es)
     | true, some l, none => (match intOf l with | some l => A.sub2OK es l (A.oi (A.len es)) /\ K (.sl sz (A.sub2 es l (A.oi (A.len es)))) | none => False)
     | true, none, some h => (match intOf h with | some h => A.sub2OK es 0 h /\ K (.sl sz (A.sub2 es 0 h)) | none => False)
     | true, some l, some h => (match intOf l, intOf h with | some l, some h => A.sub2OK es l h /\ K (.sl sz (A.sub2 es l h)) | _, _ => False)
     | false, _, _ => False
    | none => False
   | _ => False
  | none => False
 | .v (.string s) =>
  match Z1d T t with
  | some e =>
   match e.kc, lo, hi with
   | 2, none, none => K (.v (.string s))
   | 2, some l, none => (match intOf l with | some l => A.ssubOK s l (A.oi (A.slen s)) /\ K (.v (.string (A.ssub s l (A.oi (A.slen s))))) | none => False)
   | 2, none, some h => (match intOf h with | some h => A.ssubOK s 0 h /\ K (.v (.string (A.ssub s 0 h))) | none => False)
   | 2, some l, some h => (match intOf l, intOf h with | some l, some h => A.ssubOK s l h /\ K (.v (.string (A.ssub s l h))) | _, _ => False)
   | _, _, _ => False
  | none => False
 | .v (.slice (some ⟨b, 0, none⟩) n cap) =>
  match Z1d T t with
  | some e =>
   match e.el with
   | some (none, el) =>
    match Z1d T el with
    | some e2 =>
     match lo, hi with
     | some l, none => (match intOf l with | some l => A.tlOK l n cap /\ K (.v (A.tl b l e2.size n cap)) | none => False)
     | none, some h => (match intOf h with | some h => A.hdOK h cap /\ K (.v (A.hd b h cap)) | none => False)
     | _, _ => False
    | none => False
   | _ => False
  | none => False
 | _ => False
def Z7l (cs : List D) (off : Nat) (xs : List D) : List D := cs.take off ++ xs ++ cs.drop (off + xs.length)
def Zjq : D -> Bool
 | .agg _ | .arr _ | .tup _ | .any => false
 | _ => true
def Z35 : D -> Option (List D)
 | .agg cs => some cs
 | .arr _ => none
 | .tup _ => none
 | .any => none
 | d => some [d]
def Zet (place : Nat -> Option (Nat × Nat)) : List D -> List (Nat × Option D) -> Option (List D)
 | cs, [] => some cs
 | cs, (i, some d) :: r =>
  match place i, Z35 d with
  | some (off, n), some xs => (match Nat.beq xs.length n, Nat.ble (off + n) cs.length with | true, true => Zet place (Z7l cs off xs) r | _, _ => none)
  | _, _ => none
 | _, (_, none) :: _ => none
def Zib (e : TE) (i : Nat) : Option (Nat × Nat) := match e.fds[i]? with | some (off, n, _) => some (off, n) | none => none
def Zm1 (T : TT) (t : TypeId) (parts : List (Nat × Option D)) (K : D -> Prop) : Prop :=
 match Z1d T t with
 | some e =>
  match e.zero with
  | .agg zs =>
   match e.kc with
   | 8 => (match e.ok with | false => False | true => match Zet (Zib e) zs parts with | some cs => K (.agg cs) | none => False)
   | 9 =>
    match e.el with
    | some (some _, el) => (match Z1d T el with | some e2 => (match Zet (fun i => some (i * e2.size, e2.size)) zs parts with | some cs => K (.agg cs) | none => False) | none => False)
    | _ => False
   | _ => False
  | _ => False
 | none => False
def Zm2 (T : TT) (asserted : TypeId) (ok : Bool) (K : D -> Prop) : D -> Prop
 | .ifc t d =>
  match Z1d T asserted with
  | some e =>
   match e.kc with
   | 7 => False
   | _ =>
    match decide (t = asserted), ok with
    | true, true => K (.tup [d, .v (.bool true)])
    | true, false => K d
    | false, true => K (.tup [e.zero, .v (.bool false)])
    | false, false => False
  | none => False
 | .v .nilIface =>
  match Z1d T asserted with
  | some e =>
   match e.kc, ok with
   | 7, _ => False
   | _, true => K (.tup [e.zero, .v (.bool false)])
   | _, false => False
  | none => False
 | _ => False
def Zr0 : D -> Bool
 | .sl _ _ => true
 | .o _ _ _ => true
 | .z0 => true
 | .v (.slice none 0 0) => true
 | _ => false
def Zeu (T : TT) (t : TypeId) (lo : Option Operand) (hi : Option (Option D)) (mx : Option D) (K : D -> Prop) (d : D) : Prop :=
 match Z1d T t, Zr0 d, lo with
 | some e, true, none =>
  match e.el with
  | some (none, el) =>
   match Z1d T el, hi with
   | some _, some h =>
    match intOf h, intOf mx with
    | some (.ofNat 0), some (.ofNat 0) => K .z0
    | _, _ => False
   | _, _ => False
  | _ => False
 | _, _, _ => False
def Zu7 (kn : Nat) (d : D) (l : List Int) : Prop :=
 match kn, l with
 | 0, [x] => d = .v (.int .i64 x)
 | n + 1, l => d = .agg (l.map (fun x => .v (.int .i64 x))) /\ l.length = n + 1
 | _, _ => False
structure KeyIs (kn : Nat) (d : D) (K : List Int -> Prop) : Prop where
 out : ∃ l, Zu7 kn d l /\ K l
def Zc3 (T : TT) (t : TypeId) : Option (Nat × TE) :=
 match Z1d T t with
 | some e =>
  match e.mp with
  | some (kt, et) =>
   match Z1d T kt, Z1d T et with
   | some ek, some ee => (match ek.fl, ek.agg with | some (n + 1), true => some (n + 1, ee) | some 1, false => some (0, ee) | _, _ => none)
   | _, _ => none
  | none => none
 | none => none
def okA (ok : Bool) (K : D -> Prop) (d : D) (b : Bool) : Prop := match ok with | true => K (.tup [d, .v (.bool b)]) | false => K d
def Zea (A : Ar) (T : TT) (H : List Blk) (t : TypeId) (ok : Bool) (K : D -> Prop) (key : D) : D -> Prop
 | .v (.map none) => (match Zc3 T t with | some (kn, ee) => KeyIs kn key fun _ => okA ok K ee.zero false | none => False)
 | .mv k =>
  match Zc3 T t, Z1m H k with
  | some (kn, ee), some (.ob (.mp kn' ents)) => (match Nat.beq kn kn' with | true => KeyIs kn key fun l => Need (A.mget ents l ee.zero) fun d => okA ok K d (A.mhas ents l) | false => False)
  | some (kn, ee), some (.ob (.mpx kn' ents _ _)) => (match Nat.beq kn kn' with | true => KeyIs kn key fun l => Need (A.mget ents l ee.zero) fun d => okA ok K d (A.mhas ents l) | false => False)
  | _, _ => False
 | _ => False
def Zr1 : Operand -> Bool
 | .const _ => true
 | _ => false
def Z1q (A : Ar) (T : TT) (s : St) (K : D -> Prop) : Op -> Prop
 | .move x => opt (evo s.env x) K
 | .assign x => opt (evo s.env x) K
 | .pick c a b => Zjo K (evo s.env c) (evo s.env a) (evo s.env b)
 | .load t a => (match Z1d T t, evo s.env a with | some e, some d => ldP A s.H e.agg e.size K d | _, _ => False)
 | .nilCheck x => (match evo s.env x with | some d => (match Zqz d with | true => K d | false => False) | none => False)
 | .binOp op t x y _ =>
  match evo s.env x, evo s.env y with
  | some (.v .nilIface), some (.v .nilIface) => (match Zr1 y, Z1d T t with | true, some e => (match e.kc with | 7 => eqK op K true | _ => False) | _, _ => False)
  | some a, some b => Zbd A T op t K a b
  | _, _ => False
 | .lookup t x i ok => (match evo s.env x, evo s.env i with | some a, some b => Zea A T s.H t ok K b a | _, _ => False)
 | .unOp op _ x => (match evo s.env x with | some d => unA A op K d | none => False)
 | .convert src dst x => (match evo s.env x with | some d => Zeq A T src dst K d | none => False)
 | .makeInterface t x => (match evo s.env x with | some d => Zm0 T t K d | none => False)
 | .makeFunc fn first caps => Zlz K fn first (caps.toList.map (evo s.env))
 | .build t parts => Zm1 T t (parts.toList.map fun (i, x) => (i, evo s.env x)) K
 | .fieldAddr t x f => (match evo s.env x with | some d => Zlq A T t f K d | none => False)
 | .field t x f => (match evo s.env x with | some d => Zbe T t f K d | none => False)
 | .indexAddr t x i => (match evo s.env x, evo s.env i with | some a, some b => Zlr A T t (Zr1 i) K a b | _, _ => False)
 | .index t x i => (match evo s.env x, evo s.env i with | some a, some b => Z96 A T t K a b | _, _ => False)
 | .extract x i => (match evo s.env x with | some d => Zp6 i K d | none => False)
 | .slice t x lo hi none => (match evo s.env x with | some d => Zjp A T t (lo.map (evo s.env)) (hi.map (evo s.env)) K d | none => False)
 | .slice t x lo hi (some mx) => (match evo s.env x with | some d => Zeu T t lo (hi.map (evo s.env)) (evo s.env mx) K d | none => False)
 | .typeAssert x _ t ok => (match evo s.env x with | some d => Zm2 T t ok K d | none => False)
 | .call { callee := .builtin .len, args, argTypes } => (match args.toList, argTypes.toList with | [x], [t] => (match evo s.env x with | some d => Zly A T t K d | none => False) | _, _ => False)
 | .call { callee := .builtin .max, args, .. } => mmA A true K (args.toList.map (evo s.env))
 | .call { callee := .builtin .min, args, .. } => mmA A false K (args.toList.map (evo s.env))
 | _ => False
section
variable {P : Program} {T : TT} {F : Fz} {μ : Mu} {w : World} {K : D -> Prop}
theorem Zic {esz : Nat} {lit : Bool} {i : Int} {x : D} {vx : Value} (hx : VR F μ x vx) (h : Zes ar esz lit i K x) :
  ∃ d a, vx = .pointer (some a) /\ VR F μ d (.pointer (some (a.add (i.toNat * esz)))) /\ K d := by
 unfold Zes at h
 split at h
 ·cases hx with
  | cl _ _ hc => cases hc
  | b _ _ b m hμ =>
   split at h
   ·exact ⟨_, _, rfl, by rw [add_lit]; exact .b _ _ b m hμ, h⟩
   ·exact ⟨_, _, rfl, by rw [add_lit]; exact .bs _ _ b m hμ, h⟩
 ·cases hx with
  | cl _ _ hc => cases hc
  | bs _ _ b m hμ => exact ⟨_, _, rfl, by rw [add_lit]; exact .bs _ _ b m hμ, h⟩
 ·exact h.elim
theorem Z61 (hT : TOK P T) {t el : TypeId} {e : TE} (he : Z1d T t = some e) (hel : e.el = some (none, el)) : P.underlying t = some (.slice el) := by
 obtain ⟨d, hd, -, h, -⟩ := Z1e hT he;rw [hel] at h
 cases d <;> simp at h
 rw [hd, h]
theorem Zev (hT : TOK P T) {t el n : Nat} {e : TE} (he : Z1d T t = some e) (hel : e.el = some (some n, el)) : P.underlying t = some (.array n el) := by
 obtain ⟨d, hd, -, h, -⟩ := Z1e hT he;rw [hel] at h
 cases d <;> simp at h
 rw [hd, h.1, h.2]
theorem VR.o_real {k sz n : Nat} {v : Value} (h : VR F μ (.o k sz n) v) (hn : 0 < n) : ∃ b m cap, v = .slice (some ⟨b, 0, none⟩) n cap /\ μ k = some (some (b, m)) /\ n <= cap /\ cap * sz <= m := by
 cases h with
 | cl _ _ h => cases h
 | o _ _ _ b m cap h hc hm => exact ⟨b, m, cap, rfl, h, hc, hm⟩
 | oNil => omega
theorem Zm3 (hT : TOK P T) {t : TypeId} {lit : Bool} {x y : D} {vx vy : Value} (hx : VR F μ x vx) (hy : VR F μ y vy) (h : Zlr ar T t lit K x y) :
  ∃ d v, (Instr.indexAt t vx vy).run P w = .ok v w /\ VR F μ d v /\ K d := by
 unfold Zlr at h
 split at h
 ·rename_i i
  obtain rfl := hy.v_inv
  split at h
  ·rename_i e he
   split at h
   ·rename_i el hel
    split at h
    ·rename_i e2 he2
     have hu := Z61 hT he hel;have hs := Z6i (w := w) hT he2
     split at h
     ·rename_i sz es
      split at h
      ·rename_i hsz
       obtain rfl := Nat.eq_of_beq_eq_true hsz;obtain ⟨hin, hk⟩ := h;have hin : 0 <= i /\ i < es.length := hin
       cases hx with
       | cl _ _ hc =>
        cases hc with
        | slE => simp at hin; omega
        | sl _ _ b o c val hc hz hf hv =>
         refine ⟨_, .pointer (some ⟨b, o + i.toNat * e2.size + 0, none⟩), ?_, .cl _ _ (.ip _ es b o i.toNat 0 val hz hf hv), hk⟩;unfold Instr.indexAt;simp [asIntOf, run_underlying hu w, hin.1, hin.2, hs, add_lit]
      ·exact h.elim
     ·rename_i k sz n
      split at h
      ·rename_i hsz
       obtain rfl := Nat.eq_of_beq_eq_true hsz;obtain ⟨hin, hk⟩ := h;have hin : 0 <= i /\ i < n := hin;obtain ⟨b, m, cap, rfl, hμ, -, -⟩ := hx.o_real (by omega);refine ⟨_, .pointer (some ⟨b, i.toNat * e2.size + 0, none⟩), ?_, .p k _ i.toNat 0 b m hμ, hk⟩;unfold Instr.indexAt;simp [asIntOf, run_underlying hu w, hin.1, hin.2, hs, add_lit]
      ·exact h.elim
     ·exact h.elim
    ·exact h.elim
   ·rename_i n el hel
    split at h
    ·rename_i e2 he2
     have hu := Zev hT he hel;have hs := Z6i (w := w) hT he2;obtain ⟨hin, hk⟩ := h;have hin : 0 <= i /\ i < n := hin;obtain ⟨d, a, rfl, hd, hk⟩ := Zic hx hk;refine ⟨d, _, ?_, hd, hk⟩;unfold Instr.indexAt;simp [asIntOf, run_underlying hu w, hin.1, hin.2, hs, Instr.sureAddr]
    ·exact h.elim
   ·exact h.elim
  ·exact h.elim
 ·exact h.elim
theorem Zid (hT : TOK P T) {t : TypeId} {x y : D} {vx vy : Value} (hx : VR F μ x vx) (hy : VR F μ y vy) (h : Z96 ar T t K x y) :
  ∃ d v, (Instr.index t vx vy).run P w = .ok v w /\ VR F μ d v /\ K d := by
 have arrc : ∀ {cs : List D} {vs : Array Value} {i : Int}, cs.length = vs.size -> (∀ (i : Nat) (c : D) (v : Value), cs[i]? = some c -> vs[i]? = some v -> VR F μ c v) ->
   (match Z1d T t with
    | some e => (match e.el with | some (some n, el) => (match Z1d T el with | some e2 => (match e2.agg, e2.size with | false, 1 => ar.inb i n /\ Need (ar.get cs (ar.tn i)) K | _, _ => False) | none => False) | _ => False)
    | none => False) -> ∀ k, ∃ d v, (Instr.index t (.agg vs) (.int k i)).run P w = .ok v w /\ VR F μ d v /\ K d := fun {cs vs i} hl hv h k => by
  split at h
  ·rename_i e he
   split at h
   ·rename_i n el hel
    split at h
    ·rename_i e2 he2
     split at h
     ·rename_i hag hsz
      obtain ⟨hin, hk⟩ := h;have hin : 0 <= i /\ i < n := hin;obtain ⟨d, hd, hk⟩ := hk.out;have hd : cs[i.toNat]? = some d := hd;have hlt : i.toNat < vs.size := by have := (List.getElem?_eq_some_iff.1 hd).1; omega
      refine ⟨d, vs[i.toNat], ?_, hv _ d _ hd (Array.getElem?_eq_getElem hlt), hk⟩;have hs := Z6i (w := w) hT he2;have ha := Zc2 (w := w) hT he2;rw [hsz] at hs;rw [hag] at ha;unfold Instr.index;simp [asIntOf, run_underlying (Zev hT he hel) w, hin.1, hin.2, hs, part, ha, hlt]
     ·exact h.elim
    ·exact h.elim
   ·exact h.elim
  ·exact h.elim
 unfold Z96 at h
 split at h
 ·rename_i s k i
  obtain rfl := hx.v_inv;obtain rfl := hy.v_inv
  split at h
  ·rename_i e he
   split at h
   ·rename_i hk
    obtain ⟨hin, hk⟩ := h;have hin : 0 <= i /\ i < s.size := hin;obtain ⟨d, hd, hkc, -⟩ := Z1e hT he;rw [‹e.kc = 2›] at hkc;obtain rfl : d = .string := by cases d <;> simp [Zaw] at hkc; rfl
    have hlt : i.toNat < s.data.size := by have : s.size = s.data.size := rfl; omega
    refine ⟨_, .int .u8 (s.data[i.toNat]).toNat, ?_, ?_, hk⟩
    ·unfold Instr.index;have hg : s[i.toNat]? = some (s.data[i.toNat]) := by
      show (if h : i.toNat < s.size then some _ else none) = _;rw [dif_pos (show i.toNat < s.size from hlt)]; rfl
     simp [asIntOf, run_underlying hd w, hin.1, hg]
    ·have : ar.sget s (ar.tn i) = ((s.data[i.toNat]).toNat : Int) := by
      show ((Zqy s i.toNat : Nat) : Int) = _;unfold Zqy; rw [Array.getElem?_eq_getElem hlt]; rfl
     rw [this]; exact Z3d rfl
   ·exact h.elim
  ·exact h.elim
 ·obtain rfl := hy.v_inv;obtain ⟨vs, rfl, hl, hv, -⟩ := hx.agg_inv;exact arrc hl hv h _
 ·obtain rfl := hy.v_inv;obtain ⟨vs, rfl, hl, hv, -⟩ := hx.arr_inv;exact arrc hl hv h _
 ·exact h.elim
theorem Zm4 (hT : TOK P T) {t ty : TypeId} {x : D} {vx : Value} (hx : VR F μ x vx) (h : Zly ar T t K x) : ∃ d v, (Builtin.len_ #[t] ty #[vx]).run P w = .ok v w /\ VR F μ d v /\ K d := by
 unfold Zly at h
 split at h
 ·rename_i e he
  obtain ⟨d, hd, hkc, -⟩ := Z1e hT he;have sl : e.kc = 3 -> ∃ e', d = .slice e' := fun hk => by rw [hk] at hkc; cases d <;> simp [Zaw] at hkc; exact ⟨_, rfl⟩
  split at h
  ·rename_i hk
   obtain ⟨e', rfl⟩ := sl hk;obtain ⟨a, c, rfl, -⟩ := hx.sl_inv;exact ⟨_, _, by simp [Builtin.len_, run_underlying hd w, goInt]; rfl, Z3d rfl, h⟩
  ·rename_i hk
   obtain ⟨e', rfl⟩ := sl hk;obtain ⟨a, c, rfl, -⟩ := hx.o_inv;exact ⟨_, _, by simp [Builtin.len_, run_underlying hd w, goInt]; rfl, Z3d rfl, h⟩
  ·rename_i hk
   obtain ⟨e', rfl⟩ := sl hk;obtain rfl := hx.v_inv;exact ⟨_, .int .i64 0, by simp [Builtin.len_, run_underlying hd w, goInt], Z3d rfl, h⟩
  ·rename_i s hk
   obtain rfl : d = .string := by rw [hk] at hkc; cases d <;> simp [Zaw] at hkc <;> rfl
   obtain rfl := hx.v_inv;exact ⟨_, .int .i64 s.size, by simp [Builtin.len_, run_underlying hd w, goInt], Z3d rfl, h⟩
  ·exact h.elim
 ·exact h.elim
end
end Go.Abs

/- Part RunB of the proofs about the benches of the accordion maker: see the last text of the claim for what is proved. -/
import Derived.Test.YthljpccegkmdnaaGreatDoorRunA
set_option linter.unusedVariables false
set_option linter.unusedSimpArgs false
set_option linter.unnecessarySimpa false
set_option linter.constructorNameAsVariable false

namespace Go.Abs
open Go
def opt (x : Option D) (K : D -> Prop) : Prop := match x with | some d => K d | none => False
def Zi6 (A : Ar) (op : BinOp) (k : IntKind) (x y : Int) (K : D -> Prop) : Prop :=
 match op with
 | .add => (match k.signed with | true => A.fits k (A.add x y) /\ K (.v (.int k (A.add x y))) | false => K (.v (.int k (A.wrap k (A.add x y)))))
 | .sub => (match k.signed with | true => A.fits k (A.sub x y) /\ K (.v (.int k (A.sub x y))) | false => K (.v (.int k (A.wrap k (A.sub x y)))))
 | .mul => (match k.signed with | true => A.fits k (A.mul x y) /\ K (.v (.int k (A.mul x y))) | false => K (.v (.int k (A.wrap k (A.mul x y)))))
 | .quo => A.nz y /\ A.fits k (A.quo x y) /\ K (.v (.int k (A.quo x y)))
 | .rem => A.nz y /\ K (.v (.int k (A.rem x y)))
 | .and | .or | .xor | .andNot => K (.v (.int k (A.bits op k x y)))
 | .eql | .neq | .lss | .leq | .gtr | .geq => K (.v (.bool (A.cmp op x y)))
 | _ => False
def Zjk (A : Ar) (op : BinOp) (x y : ByteArray) (K : D -> Prop) : Prop :=
 match op with
 | .add => A.scatOK x y /\ K (.v (.string (A.scat x y)))
 | .eql => K (.v (.bool (A.seq x y)))
 | .neq => K (.v (.bool (A.bnot (A.seq x y))))
 | _ => False
structure NilAns (n : Nat) (K : Bool -> Prop) : Prop where
 out : ∀ b : Bool, (b = true -> n = 0) -> K b
def eqK (op : BinOp) (K : D -> Prop) (b : Bool) : Prop :=
 match op with
 | .eql => K (.v (.bool b))
 | .neq => K (.v (.bool (!b)))
 | _ => False
structure FlatEq (n : Nat) (xs ys : List D) (K : List Int -> List Int -> Prop) : Prop where
 out : ∃ a b : List Int, xs = a.map (fun x => .v (.int .i64 x)) /\ ys = b.map (fun x => .v (.int .i64 x)) /\ a.length = n /\ b.length = n /\ K a b
def Zbd (A : Ar) (T : TT) (op : BinOp) (t : TypeId) (K : D -> Prop) : D -> D -> Prop
 | .v (.int k x), .v (.int k' y) =>
  match op with
  | .shl | .shr => A.nneg y /\ K (.v (.int k (A.shift op k x y)))
  | _ => if k = k' then Zi6 A op k x y K else False
 | .v (.string x), .v (.string y) => Zjk A op x y K
 | .v (.bool x), .v (.bool y) =>
  match Z1d T t with
  | some e => (match e.kc, op with | 1, .eql => K (.v (.bool (A.beq x y))) | 1, .neq => K (.v (.bool (A.bnot (A.beq x y)))) | _, _ => False)
  | none => False
 | .sl _ es, .v (.slice none 0 0) =>
  match Z1d T t with
  | some e => (match e.kc with | 3 => NilAns (A.len es) (eqK op K) | _ => False)
  | none => False
 | .o _ _ n, .v (.slice none 0 0) =>
  match Z1d T t with
  | some e => (match e.kc with | 3 => NilAns n (eqK op K) | _ => False)
  | none => False
 | .v (.slice none 0 0), .v (.slice none 0 0) =>
  match Z1d T t with
  | some e => (match e.kc with | 3 => eqK op K true | _ => False)
  | none => False
 | .ifc _ _, .v .nilIface =>
  match Z1d T t with
  | some e => (match e.kc with | 7 => eqK op K false | _ => False)
  | none => False
 | .agg xs, .agg ys =>
  match Z1d T t with
  | some e => (match e.fl, e.agg with | some n, true => FlatEq n xs ys (fun a b => (match op with | .eql => K (.v (.bool (A.leq a b))) | .neq => K (.v (.bool (A.bnot (A.leq a b)))) | _ => False)) | _, _ => False)
  | none => False
 | _, _ => False
def unA (A : Ar) (op : UnOp) (K : D -> Prop) : D -> Prop
 | .v (.bool x) => (match op with | .not => K (.v (.bool (A.bnot x))) | _ => False)
 | .v (.int k x) => (match op with | .neg => A.fits k (A.neg x) /\ K (.v (.int k (A.neg x))) | _ => False)
 | _ => False
def Zeq (A : Ar) (T : TT) (src dst : TypeId) (K : D -> Prop) : D -> Prop
 | .v (.int _ n) =>
  match Z1d T src, Z1d T dst with
  | some e1, some e2 => (match e1.kc, e2.ik with | 10, some k => K (.v (.int k (A.wrap k n))) | _, _ => False)
  | _, _ => False
 | _ => False
def Zer (A : Ar) (n : Nat) (K : D -> Prop) : D -> Prop
 | .b k o => K (.b k (o + n))
 | .bs k o => K (.bs k (A.addN o n))
 | .p k sz i o => K (.p k sz i (o + n))
 | .ip sz es i o => K (.ip sz es i (o + n))
 | .cb d o => K (.cb d (o + n))
 | _ => False
def Zlq (A : Ar) (T : TT) (t : TypeId) (f : Nat) (K : D -> Prop) (d : D) : Prop :=
 match Z1d T t with
 | some e => (match e.fds[f]? with | some (off, size, _) => (match size with | 0 => False | _ + 1 => Zer A off K d) | none => False)
 | none => False
def Zds (agg : Bool) (off n : Nat) (cs : List D) (K : D -> Prop) : Prop :=
 match agg with
 | true => (match Nat.ble (off + n) cs.length with | true => K (.agg ((cs.drop off).take n)) | false => False)
 | false => (match Zi5 cs off with | some x => K x | none => False)
def Zbe (T : TT) (t : TypeId) (f : Nat) (K : D -> Prop) : D -> Prop
 | .agg cs => (match Z1d T t with | some e => (match e.fds[f]? with | some (off, size, 1) => Zds true off size cs K | some (off, size, 0) => Zds false off size cs K | _ => False) | none => False)
 | _ => False
def Zes (A : Ar) (esz : Nat) (lit : Bool) (i : Int) (K : D -> Prop) : D -> Prop
 | .b k o => (match lit with | true => K (.b k (o + i.toNat * esz)) | false => K (.bs k (A.addN o (A.mulN (A.tn i) esz))))
 | .bs k o => K (.bs k (A.addN o (A.mulN (A.tn i) esz)))
 | _ => False
def Zlr (A : Ar) (T : TT) (t : TypeId) (lit : Bool) (K : D -> Prop) : D -> D -> Prop
 | d, .v (.int _ i) =>
  match Z1d T t with
  | some e =>
   match e.el with
   | some (none, el) =>
    match Z1d T el with
    | some e2 =>
     match d with
     | .sl sz es => (match Nat.beq sz e2.size with | true => A.inb i (A.len es) /\ K (.ip sz es (A.tn i) 0) | false => False)
     | .o k sz n => (match Nat.beq sz e2.size with | true => A.inb i n /\ K (.p k sz (A.tn i) 0) | false => False)
     | _ => False
    | none => False
   | some (some n, el) =>
    match Z1d T el with
    | some e2 => A.inb i n /\ Zes A e2.size lit i K d
    | none => False
   | none => False
  | none => False
 | _, _ => False
def Z96 (A : Ar) (T : TT) (t : TypeId) (K : D -> Prop) : D -> D -> Prop
 | .v (.string s), .v (.int _ i) => (match Z1d T t with | some e => (match e.kc with | 2 => A.inb i (A.slen s) /\ K (.v (.int .u8 (A.sget s (A.tn i)))) | _ => False) | none => False)
 | .agg cs, .v (.int _ i) =>
  match Z1d T t with
  | some e => (match e.el with | some (some n, el) => (match Z1d T el with | some e2 => (match e2.agg, e2.size with | false, 1 => A.inb i n /\ Need (A.get cs (A.tn i)) K | _, _ => False) | none => False) | _ => False)
  | none => False
 | .arr cs, .v (.int _ i) =>
  match Z1d T t with
  | some e => (match e.el with | some (some n, el) => (match Z1d T el with | some e2 => (match e2.agg, e2.size with | false, 1 => A.inb i n /\ Need (A.get cs (A.tn i)) K | _, _ => False) | none => False) | _ => False)
  | none => False
 | _, _ => False
def Zp6 (i : Nat) (K : D -> Prop) : D -> Prop
 | .tup cs => opt (Zi5 cs i) K
 | _ => False
def Zqz : D -> Bool
 | .b _ _ | .bs _ _ | .p _ _ _ _ | .ip _ _ _ _ | .cb _ _ | .fn _ _ => true
 | _ => false
section
variable {P : Program} {T : TT} {F : Fz} {μ : Mu} {w : World} {K : D -> Prop}
theorem Z3d {x : Value} (ho : x.oneCell' = true) : VR F μ (.v x) x := .cl _ _ (.v _ ho)
theorem Zls {op : BinOp} {t : TypeId} {k : IntKind} {x y : Int} (h : Zi6 ar op k x y K) :
  ∃ d v, (binOp op t (.int k x) (.int k y)).run P w = .ok v w /\ VR F μ d v /\ K d := by
 cases op <;> simp only [Zi6] at h <;> try exact h.elim
 case add =>
  split at h
  ·obtain ⟨hf, hk⟩ := h;have hf : k.wrap (x + y) = x + y := hf;exact ⟨_, .int k (x + y), by simp [binOp, Op.intArith, hf], Z3d rfl, hk⟩
  ·exact ⟨_, _, by simp [binOp, Op.intArith]; rfl, Z3d rfl, h⟩
 case sub =>
  split at h
  ·obtain ⟨hf, hk⟩ := h;have hf : k.wrap (x - y) = x - y := hf;exact ⟨_, .int k (x - y), by simp [binOp, Op.intArith, hf], Z3d rfl, hk⟩
  ·exact ⟨_, _, by simp [binOp, Op.intArith]; rfl, Z3d rfl, h⟩
 case mul =>
  split at h
  ·obtain ⟨hf, hk⟩ := h;have hf : k.wrap (x * y) = x * y := hf;exact ⟨_, .int k (x * y), by simp [binOp, Op.intArith, hf], Z3d rfl, hk⟩
  ·exact ⟨_, _, by simp [binOp, Op.intArith]; rfl, Z3d rfl, h⟩
 case quo =>
  obtain ⟨hz, hf, hk⟩ := h;have hz : y ≠ 0 := hz;have hf : k.wrap (x.tdiv y) = x.tdiv y := hf;exact ⟨_, .int k (x.tdiv y), by simp [binOp, Op.intDiv, hz, hf], Z3d rfl, hk⟩
 case rem =>
  obtain ⟨hz, hk⟩ := h;have hz : y ≠ 0 := hz;exact ⟨_, .int k (x.tmod y), by simp [binOp, Op.intDiv, hz], Z3d rfl, hk⟩
 case and => exact ⟨_, .int k (Zc0 .and k x y), by simp [binOp, Op.intBits, Zc0], Z3d rfl, h⟩
 case or => exact ⟨_, .int k (Zc0 .or k x y), by simp [binOp, Op.intBits, Zc0], Z3d rfl, h⟩
 case xor => exact ⟨_, .int k (Zc0 .xor k x y), by simp [binOp, Op.intBits, Zc0], Z3d rfl, h⟩
 case andNot => exact ⟨_, .int k (Zc0 .andNot k x y), by simp [binOp, Op.intBits, Zc0], Z3d rfl, h⟩
 case eql => exact ⟨_, .bool (Z25 .eql x y), by simp [binOp, Op.intCmp, Z25], Z3d rfl, h⟩
 case neq => exact ⟨_, .bool (Z25 .neq x y), by simp [binOp, Op.intCmp, Z25], Z3d rfl, h⟩
 case lss => exact ⟨_, .bool (Z25 .lss x y), by simp [binOp, Op.intCmp, Z25], Z3d rfl, h⟩
 case leq => exact ⟨_, .bool (Z25 .leq x y), by simp [binOp, Op.intCmp, Z25], Z3d rfl, h⟩
 case gtr => exact ⟨_, .bool (Z25 .gtr x y), by simp [binOp, Op.intCmp, Z25], Z3d rfl, h⟩
 case geq => exact ⟨_, .bool (Z25 .geq x y), by simp [binOp, Op.intCmp, Z25], Z3d rfl, h⟩
theorem Zdt {op : BinOp} {t : TypeId} {k k' : IntKind} {x y : Int} (hop : op = .shl ∨ op = .shr) (h : ar.nneg y /\ K (.v (.int k (ar.shift op k x y)))) :
  ∃ d v, (binOp op t (.int k x) (.int k' y)).run P w = .ok v w /\ VR F μ d v /\ K d := by
 obtain ⟨h0, hk⟩ := h;have h0 : 0 <= y := h0;refine ⟨_, .int k (Zlp op k x y), ?_, Z3d rfl, hk⟩;rcases hop with rfl | rfl <;> simp [binOp, Op.shift, Zlp, show ¬ y < 0 by omega]
theorem Zlt {op : BinOp} {t : TypeId} {x y : ByteArray} (h : Zjk ar op x y K) :
  ∃ d v, (binOp op t (.string x) (.string y)).run P w = .ok v w /\ VR F μ d v /\ K d := by
 cases op <;> simp only [Zjk] at h <;> try exact h.elim
 case add =>
  obtain ⟨hf, hk⟩ := h;have hf : x.size + y.size <= 9223372036854775807 := hf;refine ⟨_, .string (x ++ y), ?_, Z3d rfl, hk⟩;have : (Op.stringOp .add x y).run P w = .ok (.string (x ++ y)) w := by
   unfold Op.stringOp;simp only [];rw [if_neg]
   ·rfl
   ·have : IntKind.i64.max = 9223372036854775807 := rfl;rw [this]; omega
  simpa [binOp] using this
 case eql => exact ⟨_, .bool (x.toList == y.toList), by simp [binOp, Op.stringOp], Z3d rfl, h⟩
 case neq => exact ⟨_, .bool (!(x.toList == y.toList)), by simp [binOp, Op.stringOp], Z3d rfl, h⟩
theorem Z1e (hT : TOK P T) {t : TypeId} {e : TE} (he : Z1d T t = some e) : ∃ d, P.underlying t = some d /\ Zaw d = e.kc /\ e.el = (match d with | .slice e => some (none, e) | .array n e => some (some n, e) | _ => none) /\
  (match d with | .int k => some k | _ => none) = e.ik := by
 obtain ⟨i, d, z, h1, h2, h3, h4, h5, h6, h7, h8, h9, h10, h11, h12, h13, -⟩ := hT.at he;exact ⟨d, h2, h13.symm, h10, h12.symm⟩
theorem Za8 {op : BinOp} {t : TypeId} {x y : Value} {b : Bool} (hx : ∀ op, op = .eql ∨ op = .neq -> (binOp op t x y).run P w = .ok (.bool (if op = .eql then b else !b)) w) (h : eqK op K b) :
  ∃ d v, (binOp op t x y).run P w = .ok v w /\ VR F μ d v /\ K d := by
 cases op <;> simp only [eqK] at h <;> try exact h.elim
 ·exact ⟨_, _, hx .eql (.inl rfl), Z3d rfl, h⟩
 ·exact ⟨_, _, hx .neq (.inr rfl), Z3d rfl, h⟩
theorem Zi7 {t : TypeId} {x y : Value} {b : Bool} (h1 : (Op.equal t x y).run P w = .ok b w) (hi : ∀ op : BinOp, op = .eql ∨ op = .neq -> binOp op t x y = (match op with | .eql => do pure (.bool (<- Op.equal t x y)) | _ => do pure (.bool (!(<- Op.equal t x y))))) :
  ∀ op, op = .eql ∨ op = .neq -> (binOp op t x y).run P w = .ok (.bool (if op = .eql then b else !b)) w := fun op ho => by
 rw [hi op ho];rcases ho with rfl | rfl <;> simp [h1]
theorem Zb2 (hT : TOK P T) {t : TypeId} {e : TE} (he : Z1d T t = some e) (hk : e.kc = 3) {a : Option Addr} {n c : Nat} : (Op.equal t (.slice a n c) (.slice none 0 0)).run P w = .ok a.isNone w := by
 obtain ⟨d, hd, hkc, -⟩ := Z1e hT he;rw [hk] at hkc;obtain ⟨e', rfl⟩ : ∃ e', d = .slice e' := by cases d <;> simp [Zaw] at hkc; exact ⟨_, rfl⟩
 unfold Op.equal Op.maxDepth Op.equalIn;rw [Sem.run_bind, run_underlying hd w]
 cases a <;> rfl
theorem Z8x (hT : TOK P T) {op : BinOp} {t : TypeId} {e : TE} (he : Z1d T t = some e) (hk : e.kc = 3) {a : Option Addr} {n c : Nat} (hn : a = none -> n = 0) (h : NilAns n (eqK op K)) :
  ∃ d v, (binOp op t (.slice a n c) (.slice none 0 0)).run P w = .ok v w /\ VR F μ d v /\ K d := by
 exact Za8 (b := a.isNone) (Zi7 (Zb2 hT he hk) fun op ho => by rcases ho with rfl | rfl <;> rfl) (h.out _ (fun ha => hn (by simpa using ha)))
theorem VR.sl_inv {sz : Nat} {es : List D} {v : Value} (h : VR F μ (.sl sz es) v) : ∃ a c, v = .slice a es.length c /\ (a = none -> es.length = 0) := by
 cases h with
 | cl _ _ h =>
  cases h with
  | slE _ a c => exact ⟨a, c, rfl, fun _ => rfl⟩
  | sl _ _ b o c val => exact ⟨_, c, rfl, fun h => by cases h⟩
theorem VR.o_inv {k sz n : Nat} {v : Value} (h : VR F μ (.o k sz n) v) : ∃ a c, v = .slice a n c /\ (a = none -> n = 0) := by
 cases h with
 | cl _ _ h => cases h
 | o _ _ _ b m cap h hc hm => exact ⟨_, cap, rfl, fun h => by cases h⟩
 | oNil _ _ a h => exact ⟨a, 0, rfl, fun _ => rfl⟩
theorem VR.ifc_inv {t : TypeId} {d : D} {v : Value} (h : VR F μ (.ifc t d) v) : ∃ x, v = .iface t x /\ VR F μ d x := by
 cases h with
 | cl _ _ h => cases h with | ifc _ _ x h => exact ⟨x, rfl, .cl _ _ h⟩
 | ifc _ _ x h => exact ⟨x, rfl, h⟩
theorem Zef (hT : TOK P T) {t : TypeId} {e : TE} (he : Z1d T t = some e) {n : Nat} (hf : e.fl = some n) : P.eqGuardType P.depth t = false /\ Z3e P 6 t = some n /\ e.agg = Z3j P t := by
 obtain ⟨i, d, z, h1, h2, h3, h4, h5, h6, h7, h8, h9, h10, h11, h12, h13, h14, h15, h16⟩ := hT.at he;rw [hf] at h16
 split at h16
 ·cases h16
 ·rename_i hg
  refine ⟨by simpa using hg, h16.symm, ?_⟩;rw [h6]; unfold Z3j Z8d; rw [h2]; cases d <;> rfl
theorem Z97 {a : List Int} {v : Value} (h : VR F μ (.agg (a.map (fun x => .v (.int .i64 x)))) v) : v = .agg (a.map (Value.int .i64)).toArray := by
 have : ∃ vs, v = .agg vs /\ (a.map (fun x => D.v (.int .i64 x))).length = vs.size /\ ∀ (i : Nat) (c : D) (u : Value), (a.map (fun x => D.v (.int .i64 x)))[i]? = some c -> vs[i]? = some u -> VR F μ c u := by
  cases h with
  | cl _ _ hc => cases hc with | agg _ vs hl hh _ => exact ⟨vs, rfl, hl, fun i c v h1 h2 => .cl _ _ (hh i c v h1 h2)⟩
  | agg _ vs hl hh _ => exact ⟨vs, rfl, hl, hh⟩
 obtain ⟨vs, rfl, hl, hr⟩ := this
 congr 1
 apply Array.ext'
 apply List.ext_getElem?
 intro i;rw [Array.getElem?_toList]
 by_cases hi : i < vs.size
 ·have hi' : i < a.length := by rw [List.length_map] at hl; omega
  have e1 := hr i (.v (.int .i64 a[i])) vs[i] (by simp [hi']) (Array.getElem?_eq_getElem hi);rw [Array.getElem?_eq_getElem hi, e1.v_inv];simp [hi']
 ·rw [Array.getElem?_eq_none (by omega), List.getElem?_eq_none (by simp at hl ⊢; omega)]
theorem Zlu (hT : TOK P T) {op : BinOp} {t : TypeId} {x y : D} {vx vy : Value} (hx : VR F μ x vx) (hy : VR F μ y vy) (h : Zbd ar T op t K x y) :
  ∃ d v, (binOp op t vx vy).run P w = .ok v w /\ VR F μ d v /\ K d := by
 unfold Zbd at h
 split at h
 ·obtain rfl := hx.v_inv;obtain rfl := hy.v_inv
  split at h
  ·exact Zdt (.inl rfl) h
  ·exact Zdt (.inr rfl) h
  ·split at h
   ·rename_i hk; subst hk; exact Zls h
   ·exact h.elim
 ·obtain rfl := hx.v_inv;obtain rfl := hy.v_inv;exact Zlt h
 ·obtain rfl := hx.v_inv;obtain rfl := hy.v_inv
  split at h
  ·rename_i e he
   obtain ⟨d, hd, hkc, -⟩ := Z1e hT he;have hb : e.kc = 1 -> ∀ a b : Bool, (Op.equal t (.bool a) (.bool b)).run P w = .ok (a == b) w := fun hk a b => by
    rw [hk] at hkc;obtain rfl : d = .bool := by cases d <;> simp [Zaw] at hkc; rfl
    unfold Op.equal Op.maxDepth Op.equalIn;rw [Sem.run_bind, run_underlying hd w];rfl
   split at h
   ·rename_i hk
    exact ⟨_, .bool _, by simp [binOp, hb hk, ar], Z3d rfl, h⟩
   ·rename_i hk
    exact ⟨_, .bool _, by simp [binOp, hb hk, ar], Z3d rfl, h⟩
   ·exact h.elim
  ·exact h.elim
 ·obtain rfl := hy.v_inv
  split at h
  ·rename_i e he
   split at h
   ·rename_i hk
    obtain ⟨a, c, rfl, ha⟩ := hx.sl_inv;exact Z8x hT he hk ha h
   ·exact h.elim
  ·exact h.elim
 ·obtain rfl := hy.v_inv
  split at h
  ·rename_i e he
   split at h
   ·rename_i hk
    obtain ⟨a, c, rfl, ha⟩ := hx.o_inv;exact Z8x hT he hk ha h
   ·exact h.elim
  ·exact h.elim
 ·obtain rfl := hx.v_inv;obtain rfl := hy.v_inv
  split at h
  ·rename_i e he
   split at h
   ·rename_i hk
    exact Za8 (b := true) (Zi7 (Zb2 hT he hk) fun op ho => by rcases ho with rfl | rfl <;> rfl) h
   ·exact h.elim
  ·exact h.elim
 ·obtain rfl := hy.v_inv;obtain ⟨x, rfl, -⟩ := hx.ifc_inv
  split at h
  ·rename_i e he
   split at h
   ·rename_i hk
    obtain ⟨d, hd, hkc, -⟩ := Z1e hT he;rw [hk] at hkc;obtain ⟨e', rfl⟩ : ∃ e', d = .interface e' := by cases d <;> simp [Zaw] at hkc; exact ⟨_, rfl⟩
    refine Za8 (b := false) (Zi7 ?_ fun op ho => by rcases ho with rfl | rfl <;> rfl) h;unfold Op.equal Op.maxDepth Op.equalIn;rw [Sem.run_bind, run_underlying hd w];rfl
   ·exact h.elim
  ·exact h.elim
 ·split at h
  ·rename_i e he
   split at h
   ·rename_i n hf ha
    obtain ⟨a, b, rfl, rfl, la, lb, hk⟩ := h.out;obtain ⟨f1, f2, f3⟩ := Zef hT he hf;rw [ha] at f3;have va := Z97 hx;have vb := Z97 hy;subst va; subst vb;have heq := Z5c 6 9994 t n f2 a b w la lb;rw [<- f3] at heq;simp only [Z1k, if_true] at heq
    split at hk
    ·exact ⟨_, .bool _, by rw [run_eql_struct]; rw [show (10000 : Nat) = 9994 + 6 from rfl, heq]; rfl, Z3d rfl, hk⟩
    ·exact ⟨_, .bool _, by rw [run_neq_struct]; rw [show (10000 : Nat) = 9994 + 6 from rfl, heq]; rfl, Z3d rfl, hk⟩
    ·exact hk.elim
   ·exact h.elim
  ·exact h.elim
 ·exact h.elim
theorem Zp7 {op : UnOp} {x : D} {vx : Value} (hx : VR F μ x vx) (h : unA ar op K x) : ∃ d v, (Op.unary op vx).run P w = .ok v w /\ VR F μ d v /\ K d := by
 unfold unA at h
 split at h
 ·obtain rfl := hx.v_inv
  split at h
  ·exact ⟨_, .bool _, by simp [Op.unary, ar], Z3d rfl, h⟩
  ·exact h.elim
 ·obtain rfl := hx.v_inv
  rename_i k x
  split at h
  ·obtain ⟨hf, hk⟩ := h;have hf : k.wrap (-x) = -x := hf;exact ⟨_, .int k (-x), by simp [Op.unary, Op.intArith, hf], Z3d rfl, hk⟩
  ·exact h.elim
 ·exact h.elim
theorem Zjl (hT : TOK P T) {src dst : TypeId} {x : D} {vx : Value} (hx : VR F μ x vx) (h : Zeq ar T src dst K x) : ∃ d v, (convert src dst vx).run P w = .ok v w /\ VR F μ d v /\ K d := by
 unfold Zeq at h
 split at h
 ·obtain rfl := hx.v_inv
  split at h
  ·rename_i n e1 e2 h1 h2
   split at h
   ·rename_i k hk1 hk2
    obtain ⟨d1, hd1, hc1, -⟩ := Z1e hT h1;obtain ⟨d2, hd2, -, -, hi2⟩ := Z1e hT h2;rw [hk1] at hc1;rw [hk2] at hi2;obtain ⟨k1, rfl⟩ : ∃ k1, d1 = .int k1 := by cases d1 <;> simp [Zaw] at hc1; exact ⟨_, rfl⟩
    obtain rfl : d2 = .int k := by cases d2 <;> simp at hi2; rw [hi2]
    refine ⟨_, .int k (k.wrap _), ?_, Z3d rfl, h⟩;unfold convert;rw [Sem.run_bind, run_underlying hd1 w];simp only [Result.andThen_ok, Sem.run_bind, run_underlying hd2 w];rfl
   ·exact h.elim
  ·exact h.elim
 ·exact h.elim
theorem Zi8 {n : Nat} {x : D} {vx : Value} (hx : VR F μ x vx) (h : Zer ar n K x) : ∃ d a, vx = .pointer (some a) /\ VR F μ d (.pointer (some (a.add n))) /\ K d := by
 unfold Zer at h
 split at h
 ·cases hx with
  | cl _ _ hc => cases hc
  | b _ _ b m hμ => exact ⟨_, _, rfl, by rw [add_lit]; exact .b _ _ b m hμ, h⟩
 ·cases hx with
  | cl _ _ hc => cases hc
  | bs _ _ b m hμ => exact ⟨_, _, rfl, by rw [add_lit]; exact .bs _ _ b m hμ, h⟩
 ·cases hx with
  | cl _ _ hc => cases hc
  | p _ _ _ _ b m hμ => exact ⟨_, _, rfl, by rw [add_lit, Nat.add_assoc]; exact .p _ _ _ _ b m hμ, h⟩
 ·cases hx with
  | cl _ _ hc => cases hc with | ip _ _ b o _ _ val hz hf hv => exact ⟨_, _, rfl, by rw [add_lit, Nat.add_assoc]; exact .cl _ _ (.ip _ _ b o _ _ val hz hf hv), h⟩
 ·cases hx with
  | cl _ _ hc => cases hc with | cb _ b o _ val hf hv => exact ⟨_, _, rfl, by rw [add_lit, Nat.add_assoc]; exact .cl _ _ (.cb _ b o _ val hf hv), h⟩
 ·exact h.elim
theorem Zlv (hT : TOK P T) {t : TypeId} {e : TE} (he : Z1d T t = some e) {f : Nat} {off size agg : Nat} (hf : e.fds[f]? = some (off, size, agg)) :
  ∃ fs fl, P.underlying t = some (.struct fs) /\ fs[f]? = some fl /\ fl.offset = off /\ P.cellsOf fl.type = size /\ ((P.underlying fl.type).map fun d => if Z8d d then 1 else 0).getD 2 = agg := by
 obtain ⟨i, d, z, h1, h2, h3, h4, h5, h6, h7, h8, h9, h10, h11, -⟩ := hT.at he;rw [h11] at hf
 cases d <;> try (simp at hf; done)
 rename_i fs
 simp only [List.getElem?_map, Option.map_eq_some_iff, Prod.mk.injEq, Array.getElem?_toList] at hf;obtain ⟨fl, h, e1, e2, e3⟩ := hf;exact ⟨fs, fl, h2, h, e1, e2, e3⟩
theorem run_sizeOf {t : TypeId} {n : Nat} (h : P.cellsOf t = n + 1) : (sizeOf t).run P w = .ok (n + 1) w := by
 unfold Program.cellsOf at h
 cases hq : P.info? t with
 | none => simp [hq] at h
 | some i => simp [hq] at h; simp [sizeOf, typeInfo, hq, h]
theorem Zlw (hT : TOK P T) {t : TypeId} {f : Nat} {x : D} {vx : Value} (hx : VR F μ x vx) (h : Zlq ar T t f K x) : ∃ d v, (Instr.fieldAt t vx f).run P w = .ok v w /\ VR F μ d v /\ K d := by
 unfold Zlq at h
 split at h
 ·rename_i e he
  split at h
  ·rename_i off size agg hf
   split at h
   ·exact h.elim
   ·rename_i n
    obtain ⟨fs, fl, h1, h2, rfl, h4, -⟩ := Zlv hT he hf;obtain ⟨d, a, rfl, hv, hk⟩ := Zi8 hx h;refine ⟨d, _, ?_, hv, hk⟩;unfold Instr.fieldAt;rw [Sem.run_bind, run_underlying h1 w];simp [h2, Instr.sureAddr, fieldPlace, run_sizeOf h4]
  ·exact h.elim
 ·exact h.elim
theorem Zjm {t : TypeId} {agg : Bool} {off n : Nat} {cs : List D} {vs : Array Value} (hl : cs.length = vs.size) (hv : ∀ (i : Nat) (c : D) (v : Value), cs[i]? = some c -> vs[i]? = some v -> VR F μ c v)
  (ho : ∀ (i : Nat) (v : Value), vs[i]? = some v -> v.oneCell' = true) (ha : (isAgg t).run P w = .ok agg w) (hn : agg = true -> (sizeOf t).run P w = .ok n w) (h : Zds agg off n cs K) : ∃ d v, (part t vs off).run P w = .ok v w /\ VR F μ d v /\ K d := by
 unfold Zds at h
 split at h
 ·split at h
  ·rename_i hb
   have hb := Nat.le_of_ble_eq_true hb;refine ⟨_, .agg (vs.extract off (off + n)), ?_, .agg _ _ (by simp; omega) (fun i c v hi hj => ?_) (fun i v hj => ?_), h⟩
   ·unfold part; rw [Sem.run_bind, ha]; simp [hn rfl]
   ·rw [List.getElem?_take] at hi;rw [Array.getElem?_extract] at hj
    split at hi
    ·rw [List.getElem?_drop] at hi
     split at hj
     ·exact hv _ _ _ hi hj
     ·cases hj
    ·cases hi
   ·rw [Array.getElem?_extract] at hj
    split at hj
    ·exact ho _ _ hj
    ·cases hj
  ·exact h.elim
 ·rw [Zc1] at h
  split at h
  ·rename_i x hx
   have hlt : off < vs.size := by have := (List.getElem?_eq_some_iff.1 hx).1; omega
   exact ⟨x, vs[off], by unfold part; rw [Sem.run_bind, ha]; simp [hlt], hv off x _ hx (Array.getElem?_eq_getElem hlt), h⟩
  ·exact h.elim
theorem VR.agg_inv {cs : List D} {v : Value} (h : VR F μ (.agg cs) v) : ∃ vs : Array Value, v = .agg vs /\ cs.length = vs.size /\ (∀ (i : Nat) (c : D) (v : Value), cs[i]? = some c -> vs[i]? = some v -> VR F μ c v) /\ (∀ (i : Nat) (v : Value), vs[i]? = some v -> v.oneCell' = true) := by
 cases h with
 | cl _ _ h => cases h with | agg _ vs hl hv ho => exact ⟨vs, rfl, hl, fun i c v h1 h2 => .cl _ _ (hv i c v h1 h2), ho⟩
 | agg _ vs hl hv ho => exact ⟨vs, rfl, hl, hv, ho⟩
theorem VR.arr_inv {cs : List D} {v : Value} (h : VR F μ (.arr cs) v) : ∃ vs : Array Value, v = .agg vs /\ cs.length = vs.size /\ (∀ (i : Nat) (c : D) (v : Value), cs[i]? = some c -> vs[i]? = some v -> VR F μ c v) /\ (∀ (i : Nat) (v : Value), vs[i]? = some v -> v.oneCell' = true) := by
 cases h with
 | cl _ _ h => cases h with | arr _ vs hl hv ho => exact ⟨vs, rfl, hl, fun i c v h1 h2 => .cl _ _ (hv i c v h1 h2), ho⟩
 | arr _ vs hl hv ho => exact ⟨vs, rfl, hl, hv, ho⟩
theorem VR.tup_inv {cs : List D} {v : Value} (h : VR F μ (.tup cs) v) : ∃ vs : Array Value, v = .tuple vs /\ cs.length = vs.size /\ (∀ (i : Nat) (c : D) (v : Value), cs[i]? = some c -> vs[i]? = some v -> VR F μ c v) := by
 cases h with
 | cl _ _ h => cases h with | tup _ vs hl hv => exact ⟨vs, rfl, hl, fun i c v h1 h2 => .cl _ _ (hv i c v h1 h2)⟩
 | tup _ vs hl hv => exact ⟨vs, rfl, hl, hv⟩
theorem Zi9 {t : TypeId} {d : TypeDesc} (h : P.underlying t = some d) : (isAgg t).run P w = .ok (Z8d d) w := by
 unfold isAgg; rw [Sem.run_bind, run_underlying h w]; cases d <;> rfl
theorem Zjn {t : TypeId} {d : TypeDesc} (h : P.underlying t = some d) : (sizeOf t).run P w = .ok (P.cellsOf t) w := by
 have : ∃ i, P.info? t = some i := by
  unfold Program.underlying at h
  split at h
  ·exact ⟨_, ‹_›⟩
  ·exact ⟨_, ‹_›⟩
  ·cases h
 obtain ⟨i, hi⟩ := this;simp [sizeOf, typeInfo, hi, Program.cellsOf]
theorem Zia (hT : TOK P T) {t : TypeId} {f : Nat} {x : D} {vx : Value} (hx : VR F μ x vx) (h : Zbe T t f K x) :
  ∃ d v, (Instr.field t vx f).run P w = .ok v w /\ VR F μ d v /\ K d := by
 have main : ∀ {cs : List D} {vs : Array Value} {e : TE} {off size : Nat} {agg : Bool}, Z1d T t = some e -> e.fds[f]? = some (off, size, if agg then 1 else 0) -> cs.length = vs.size ->
   (∀ (i : Nat) (c : D) (v : Value), cs[i]? = some c -> vs[i]? = some v -> VR F μ c v) -> (∀ (i : Nat) (v : Value), vs[i]? = some v -> v.oneCell' = true) -> Zds agg off size cs K ->
   ∃ d v, (Instr.field t (.agg vs) f).run P w = .ok v w /\ VR F μ d v /\ K d := fun {cs vs e off size agg} he hf hl hv ho h => by
  obtain ⟨fs, fl, h1, h2, rfl, rfl, h5⟩ := Zlv hT he hf;have hu : ∃ d, P.underlying fl.type = some d /\ Z8d d = agg := by
   cases hq : P.underlying fl.type with
   | none => rw [hq] at h5; cases agg <;> simp at h5
   | some d => rw [hq] at h5; refine ⟨d, rfl, ?_⟩; cases agg <;> cases hd : Z8d d <;> simp [hd] at h5 <;> rfl
  obtain ⟨d, hd, ha⟩ := hu;obtain ⟨x, v, g1, g2, g3⟩ := Zjm (P := P) (w := w) hl hv ho (by rw [<- ha]; exact Zi9 hd) (fun _ => Zjn hd) h;refine ⟨x, v, ?_, g2, g3⟩;unfold Instr.field;rw [Sem.run_bind, run_underlying h1 w];simp [h2, asAgg, g1]
 unfold Zbe at h
 split at h
 ·obtain ⟨vs, rfl, hl, hv, ho⟩ := hx.agg_inv
  split at h
  ·rename_i e he
   split at h
   ·rename_i hf; exact main he (agg := true) hf hl hv ho h
   ·rename_i hf; exact main he (agg := false) hf hl hv ho h
   ·exact h.elim
  ·exact h.elim
 ·exact h.elim
theorem Zlx {i : Nat} {x : D} {vx : Value} (hx : VR F μ x vx) (h : Zp6 i K x) : ∃ d v, (Instr.extract vx i).run P w = .ok v w /\ VR F μ d v /\ K d := by
 unfold Zp6 at h
 split at h
 ·obtain ⟨vs, rfl, hl, hv⟩ := hx.tup_inv;rw [Zc1] at h;unfold opt at h
  split at h
  ·rename_i d hd
   have hlt : i < vs.size := by have := (List.getElem?_eq_some_iff.1 hd).1; omega
   exact ⟨d, vs[i], by simp [Instr.extract, hlt], hv i d _ hd (Array.getElem?_eq_getElem hlt), h⟩
  ·exact h.elim
 ·exact h.elim
end
end Go.Abs

namespace Go.Abs
open Go
def Zjo (K : D -> Prop) (c a b : Option D) : Prop :=
 match c with
 | some (.v (.bool true)) => opt a K
 | some (.v (.bool false)) => opt b K
 | _ => False
def Zly (A : Ar) (T : TT) (t : TypeId) (K : D -> Prop) (d : D) : Prop :=
 match Z1d T t with
 | some e =>
  match e.kc, d with
  | 3, .sl _ es => K (.v (.int .i64 (A.oi (A.len es))))
  | 3, .o _ _ n => K (.v (.int .i64 (A.oi n)))
  | 3, .v (.slice none 0 0) => K (.v (.int .i64 0))
  | 2, .v (.string s) => K (.v (.int .i64 (A.oi (A.slen s))))
  | _, _ => False
 | none => False
def mm (A : Ar) (mx : Bool) (k : IntKind) (x : Int) (K : D -> Prop) : List (Option D) -> Prop
 | [] => K (.v (.int k x))
 | some (.v (.int k' y)) :: r => if k = k' then (match mx with | true => mm A mx k (A.max x y) K r | false => mm A mx k (A.min x y) K r) else False
 | _ :: _ => False
def mmA (A : Ar) (mx : Bool) (K : D -> Prop) : List (Option D) -> Prop
 | some (.v (.int k x)) :: r => mm A mx k x K r
 | _ => False
def Z34 : List (Option D) -> Option (List D)
 | [] => some []
 | some d :: r => (match Z34 r with | some l => some (d :: l) | none => none)
 | none :: _ => none
def Zlz (K : D -> Prop) (fn : Fn) (first : Array Operand) (caps : List (Option D)) : Prop :=
 match fn, first.toList, Z34 caps with
 | .func f, [], some cs => K (.fn f cs)
 | _, _, _ => False
def Zm0 (T : TT) (t : TypeId) (K : D -> Prop) (d : D) : Prop :=
 match Z1d T t with
 | some e => (match e.kc with | 7 => False | _ => K (.ifc t d))
 | none => False
def intOf : Option D -> Option Int
 | some (.v (.int _ n)) => some n
 | _ => none
def Zjp (A : Ar) (T : TT) (t : TypeId) (lo hi : Option (Option D)) (K : D -> Prop) : D -> Prop
 | .sl sz es =>
  match Z1d T t with
  | some e =>
   match e.el with
   | some (none, el) =>
    match Z1d T el with
    | some e2 =>
     match Nat.beq sz e2.size, lo, hi with
     | true, none, none => K (.sl sz es)
     | true, some l, none => (match intOf l with | some l => A.sub2OK es l (A.oi (A.len es)) /\ K (.sl sz (A.sub2 es l (A.oi (A.len es)))) | none => False)
     | true, none, some h => (match intOf h with | some h => A.sub2OK es 0 h /\ K (.sl sz (A.sub2 es 0 h)) | none => False)
     | true, some l, some h => (match intOf l, intOf h with | some l, some h => A.sub2OK es l h /\ K (.sl sz (A.sub2 es l h)) | _, _ => False)
     | false, _, _ => False
    | none => False
   | _ => False
  | none => False
 | .v (.string s) =>
  match Z1d T t with
  | some e =>
   match e.kc, lo, hi with
   | 2, none, none => K (.v (.string s))
   | 2, some l, none => (match intOf l with | some l => A.ssubOK s l (A.oi (A.slen s)) /\ K (.v (.string (A.ssub s l (A.oi (A.slen s))))) | none => False)
   | 2, none, some h => (match intOf h with | some h => A.ssubOK s 0 h /\ K (.v (.string (A.ssub s 0 h))) | none => False)
   | 2, some l, some h => (match intOf l, intOf h with | some l, some h => A.ssubOK s l h /\ K (.v (.string (A.ssub s l h))) | _, _ => False)
   | _, _, _ => False
  | none => False
 | .v (.slice (some ⟨b, 0, none⟩) n cap) =>
  match Z1d T t with
  | some e =>
   match e.el with
   | some (none, el) =>
    match Z1d T el with
    | some e2 =>
     match lo, hi with
     | some l, none => (match intOf l with | some l => A.tlOK l n cap /\ K (.v (A.tl b l e2.size n cap)) | none => False)
     | none, some h => (match intOf h with | some h => A.hdOK h cap /\ K (.v (A.hd b h cap)) | none => False)
     | _, _ => False
    | none => False
   | _ => False
  | none => False
 | _ => False
def Z7l (cs : List D) (off : Nat) (xs : List D) : List D := cs.take off ++ xs ++ cs.drop (off + xs.length)
def Zjq : D -> Bool
 | .agg _ | .arr _ | .tup _ | .any => false
 | _ => true
def Z35 : D -> Option (List D)
 | .agg cs => some cs
 | .arr _ => none
 | .tup _ => none
 | .any => none
 | d => some [d]
def Zet (place : Nat -> Option (Nat × Nat)) : List D -> List (Nat × Option D) -> Option (List D)
 | cs, [] => some cs
 | cs, (i, some d) :: r =>
  match place i, Z35 d with
  | some (off, n), some xs => (match Nat.beq xs.length n, Nat.ble (off + n) cs.length with | true, true => Zet place (Z7l cs off xs) r | _, _ => none)
  | _, _ => none
 | _, (_, none) :: _ => none
def Zib (e : TE) (i : Nat) : Option (Nat × Nat) := match e.fds[i]? with | some (off, n, _) => some (off, n) | none => none
def Zm1 (T : TT) (t : TypeId) (parts : List (Nat × Option D)) (K : D -> Prop) : Prop :=
 match Z1d T t with
 | some e =>
  match e.zero with
  | .agg zs =>
   match e.kc with
   | 8 => (match e.ok with | false => False | true => match Zet (Zib e) zs parts with | some cs => K (.agg cs) | none => False)
   | 9 =>
    match e.el with
    | some (some _, el) => (match Z1d T el with | some e2 => (match Zet (fun i => some (i * e2.size, e2.size)) zs parts with | some cs => K (.agg cs) | none => False) | none => False)
    | _ => False
   | _ => False
  | _ => False
 | none => False
def Zm2 (T : TT) (asserted : TypeId) (ok : Bool) (K : D -> Prop) : D -> Prop
 | .ifc t d =>
  match Z1d T asserted with
  | some e =>
   match e.kc with
   | 7 => False
   | _ =>
    match decide (t = asserted), ok with
    | true, true => K (.tup [d, .v (.bool true)])
    | true, false => K d
    | false, true => K (.tup [e.zero, .v (.bool false)])
    | false, false => False
  | none => False
 | .v .nilIface =>
  match Z1d T asserted with
  | some e =>
   match e.kc, ok with
   | 7, _ => False
   | _, true => K (.tup [e.zero, .v (.bool false)])
   | _, false => False
  | none => False
 | _ => False
def Zr0 : D -> Bool
 | .sl _ _ => true
 | .o _ _ _ => true
 | .z0 => true
 | .v (.slice none 0 0) => true
 | _ => false
def Zeu (T : TT) (t : TypeId) (lo : Option Operand) (hi : Option (Option D)) (mx : Option D) (K : D -> Prop) (d : D) : Prop :=
 match Z1d T t, Zr0 d, lo with
 | some e, true, none =>
  match e.el with
  | some (none, el) =>
   match Z1d T el, hi with
   | some _, some h =>
    match intOf h, intOf mx with
    | some (.ofNat 0), some (.ofNat 0) => K .z0
    | _, _ => False
   | _, _ => False
  | _ => False
 | _, _, _ => False
def Zu7 (kn : Nat) (d : D) (l : List Int) : Prop :=
 match kn, l with
 | 0, [x] => d = .v (.int .i64 x)
 | n + 1, l => d = .agg (l.map (fun x => .v (.int .i64 x))) /\ l.length = n + 1
 | _, _ => False
structure KeyIs (kn : Nat) (d : D) (K : List Int -> Prop) : Prop where
 out : ∃ l, Zu7 kn d l /\ K l
def Zc3 (T : TT) (t : TypeId) : Option (Nat × TE) :=
 match Z1d T t with
 | some e =>
  match e.mp with
  | some (kt, et) =>
   match Z1d T kt, Z1d T et with
   | some ek, some ee => (match ek.fl, ek.agg with | some (n + 1), true => some (n + 1, ee) | some 1, false => some (0, ee) | _, _ => none)
   | _, _ => none
  | none => none
 | none => none
def okA (ok : Bool) (K : D -> Prop) (d : D) (b : Bool) : Prop := match ok with | true => K (.tup [d, .v (.bool b)]) | false => K d
def Zea (A : Ar) (T : TT) (H : List Blk) (t : TypeId) (ok : Bool) (K : D -> Prop) (key : D) : D -> Prop
 | .v (.map none) => (match Zc3 T t with | some (kn, ee) => KeyIs kn key fun _ => okA ok K ee.zero false | none => False)
 | .mv k =>
  match Zc3 T t, Z1m H k with
  | some (kn, ee), some (.ob (.mp kn' ents)) => (match Nat.beq kn kn' with | true => KeyIs kn key fun l => Need (A.mget ents l ee.zero) fun d => okA ok K d (A.mhas ents l) | false => False)
  | some (kn, ee), some (.ob (.mpx kn' ents _ _)) => (match Nat.beq kn kn' with | true => KeyIs kn key fun l => Need (A.mget ents l ee.zero) fun d => okA ok K d (A.mhas ents l) | false => False)
  | _, _ => False
 | _ => False
def Zr1 : Operand -> Bool
 | .const _ => true
 | _ => false
def Z1q (A : Ar) (T : TT) (s : St) (K : D -> Prop) : Op -> Prop
 | .move x => opt (evo s.env x) K
 | .assign x => opt (evo s.env x) K
 | .pick c a b => Zjo K (evo s.env c) (evo s.env a) (evo s.env b)
 | .load t a => (match Z1d T t, evo s.env a with | some e, some d => ldP A s.H e.agg e.size K d | _, _ => False)
 | .nilCheck x => (match evo s.env x with | some d => (match Zqz d with | true => K d | false => False) | none => False)
 | .binOp op t x y _ =>
  match evo s.env x, evo s.env y with
  | some (.v .nilIface), some (.v .nilIface) => (match Zr1 y, Z1d T t with | true, some e => (match e.kc with | 7 => eqK op K true | _ => False) | _, _ => False)
  | some a, some b => Zbd A T op t K a b
  | _, _ => False
 | .lookup t x i ok => (match evo s.env x, evo s.env i with | some a, some b => Zea A T s.H t ok K b a | _, _ => False)
 | .unOp op _ x => (match evo s.env x with | some d => unA A op K d | none => False)
 | .convert src dst x => (match evo s.env x with | some d => Zeq A T src dst K d | none => False)
 | .makeInterface t x => (match evo s.env x with | some d => Zm0 T t K d | none => False)
 | .makeFunc fn first caps => Zlz K fn first (caps.toList.map (evo s.env))
 | .build t parts => Zm1 T t (parts.toList.map fun (i, x) => (i, evo s.env x)) K
 | .fieldAddr t x f => (match evo s.env x with | some d => Zlq A T t f K d | none => False)
 | .field t x f => (match evo s.env x with | some d => Zbe T t f K d | none => False)
 | .indexAddr t x i => (match evo s.env x, evo s.env i with | some a, some b => Zlr A T t (Zr1 i) K a b | _, _ => False)
 | .index t x i => (match evo s.env x, evo s.env i with | some a, some b => Z96 A T t K a b | _, _ => False)
 | .extract x i => (match evo s.env x with | some d => Zp6 i K d | none => False)
 | .slice t x lo hi none => (match evo s.env x with | some d => Zjp A T t (lo.map (evo s.env)) (hi.map (evo s.env)) K d | none => False)
 | .slice t x lo hi (some mx) => (match evo s.env x with | some d => Zeu T t lo (hi.map (evo s.env)) (evo s.env mx) K d | none => False)
 | .typeAssert x _ t ok => (match evo s.env x with | some d => Zm2 T t ok K d | none => False)
 | .call { callee := .builtin .len, args, argTypes } => (match args.toList, argTypes.toList with | [x], [t] => (match evo s.env x with | some d => Zly A T t K d | none => False) | _, _ => False)
 | .call { callee := .builtin .max, args, .. } => mmA A true K (args.toList.map (evo s.env))
 | .call { callee := .builtin .min, args, .. } => mmA A false K (args.toList.map (evo s.env))
 | _ => False
section
variable {P : Program} {T : TT} {F : Fz} {μ : Mu} {w : World} {K : D -> Prop}
theorem Zic {esz : Nat} {lit : Bool} {i : Int} {x : D} {vx : Value} (hx : VR F μ x vx) (h : Zes ar esz lit i K x) :
  ∃ d a, vx = .pointer (some a) /\ VR F μ d (.pointer (some (a.add (i.toNat * esz)))) /\ K d := by
 unfold Zes at h
 split at h
 ·cases hx with
  | cl _ _ hc => cases hc
  | b _ _ b m hμ =>
   split at h
   ·exact ⟨_, _, rfl, by rw [add_lit]; exact .b _ _ b m hμ, h⟩
   ·exact ⟨_, _, rfl, by rw [add_lit]; exact .bs _ _ b m hμ, h⟩
 ·cases hx with
  | cl _ _ hc => cases hc
  | bs _ _ b m hμ => exact ⟨_, _, rfl, by rw [add_lit]; exact .bs _ _ b m hμ, h⟩
 ·exact h.elim
theorem Z61 (hT : TOK P T) {t el : TypeId} {e : TE} (he : Z1d T t = some e) (hel : e.el = some (none, el)) : P.underlying t = some (.slice el) := by
 obtain ⟨d, hd, -, h, -⟩ := Z1e hT he;rw [hel] at h
 cases d <;> simp at h
 rw [hd, h]
theorem Zev (hT : TOK P T) {t el n : Nat} {e : TE} (he : Z1d T t = some e) (hel : e.el = some (some n, el)) : P.underlying t = some (.array n el) := by
 obtain ⟨d, hd, -, h, -⟩ := Z1e hT he;rw [hel] at h
 cases d <;> simp at h
 rw [hd, h.1, h.2]
theorem VR.o_real {k sz n : Nat} {v : Value} (h : VR F μ (.o k sz n) v) (hn : 0 < n) : ∃ b m cap, v = .slice (some ⟨b, 0, none⟩) n cap /\ μ k = some (some (b, m)) /\ n <= cap /\ cap * sz <= m := by
 cases h with
 | cl _ _ h => cases h
 | o _ _ _ b m cap h hc hm => exact ⟨b, m, cap, rfl, h, hc, hm⟩
 | oNil => omega
theorem Zm3 (hT : TOK P T) {t : TypeId} {lit : Bool} {x y : D} {vx vy : Value} (hx : VR F μ x vx) (hy : VR F μ y vy) (h : Zlr ar T t lit K x y) :
  ∃ d v, (Instr.indexAt t vx vy).run P w = .ok v w /\ VR F μ d v /\ K d := by
 unfold Zlr at h
 split at h
 ·rename_i i
  obtain rfl := hy.v_inv
  split at h
  ·rename_i e he
   split at h
   ·rename_i el hel
    split at h
    ·rename_i e2 he2
     have hu := Z61 hT he hel;have hs := Z6i (w := w) hT he2
     split at h
     ·rename_i sz es
      split at h
      ·rename_i hsz
       obtain rfl := Nat.eq_of_beq_eq_true hsz;obtain ⟨hin, hk⟩ := h;have hin : 0 <= i /\ i < es.length := hin
       cases hx with
       | cl _ _ hc =>
        cases hc with
        | slE => simp at hin; omega
        | sl _ _ b o c val hc hz hf hv =>
         refine ⟨_, .pointer (some ⟨b, o + i.toNat * e2.size + 0, none⟩), ?_, .cl _ _ (.ip _ es b o i.toNat 0 val hz hf hv), hk⟩;unfold Instr.indexAt;simp [asIntOf, run_underlying hu w, hin.1, hin.2, hs, add_lit]
      ·exact h.elim
     ·rename_i k sz n
      split at h
      ·rename_i hsz
       obtain rfl := Nat.eq_of_beq_eq_true hsz;obtain ⟨hin, hk⟩ := h;have hin : 0 <= i /\ i < n := hin;obtain ⟨b, m, cap, rfl, hμ, -, -⟩ := hx.o_real (by omega);refine ⟨_, .pointer (some ⟨b, i.toNat * e2.size + 0, none⟩), ?_, .p k _ i.toNat 0 b m hμ, hk⟩;unfold Instr.indexAt;simp [asIntOf, run_underlying hu w, hin.1, hin.2, hs, add_lit]
      ·exact h.elim
     ·exact h.elim
    ·exact h.elim
   ·rename_i n el hel
    split at h
    ·rename_i e2 he2
     have hu := Zev hT he hel;have hs := Z6i (w := w) hT he2;obtain ⟨hin, hk⟩ := h;have hin : 0 <= i /\ i < n := hin;obtain ⟨d, a, rfl, hd, hk⟩ := Zic hx hk;refine ⟨d, _, ?_, hd, hk⟩;unfold Instr.indexAt;simp [asIntOf, run_underlying hu w, hin.1, hin.2, hs, Instr.sureAddr]
    ·exact h.elim
   ·exact h.elim
  ·exact h.elim
 ·exact h.elim
theorem Zid (hT : TOK P T) {t : TypeId} {x y : D} {vx vy : Value} (hx : VR F μ x vx) (hy : VR F μ y vy) (h : Z96 ar T t K x y) :
  ∃ d v, (Instr.index t vx vy).run P w = .ok v w /\ VR F μ d v /\ K d := by
 have arrc : ∀ {cs : List D} {vs : Array Value} {i : Int}, cs.length = vs.size -> (∀ (i : Nat) (c : D) (v : Value), cs[i]? = some c -> vs[i]? = some v -> VR F μ c v) ->
   (match Z1d T t with
    | some e => (match e.el with | some (some n, el) => (match Z1d T el with | some e2 => (match e2.agg, e2.size with | false, 1 => ar.inb i n /\ Need (ar.get cs (ar.tn i)) K | _, _ => False) | none => False) | _ => False)
    | none => False) -> ∀ k, ∃ d v, (Instr.index t (.agg vs) (.int k i)).run P w = .ok v w /\ VR F μ d v /\ K d := fun {cs vs i} hl hv h k => by
  split at h
  ·rename_i e he
   split at h
   ·rename_i n el hel
    split at h
    ·rename_i e2 he2
     split at h
     ·rename_i hag hsz
      obtain ⟨hin, hk⟩ := h;have hin : 0 <= i /\ i < n := hin;obtain ⟨d, hd, hk⟩ := hk.out;have hd : cs[i.toNat]? = some d := hd;have hlt : i.toNat < vs.size := by have := (List.getElem?_eq_some_iff.1 hd).1; omega
      refine ⟨d, vs[i.toNat], ?_, hv _ d _ hd (Array.getElem?_eq_getElem hlt), hk⟩;have hs := Z6i (w := w) hT he2;have ha := Zc2 (w := w) hT he2;rw [hsz] at hs;rw [hag] at ha;unfold Instr.index;simp [asIntOf, run_underlying (Zev hT he hel) w, hin.1, hin.2, hs, part, ha, hlt]
     ·exact h.elim
    ·exact h.elim
   ·exact h.elim
  ·exact h.elim
 unfold Z96 at h
 split at h
 ·rename_i s k i
  obtain rfl := hx.v_inv;obtain rfl := hy.v_inv
  split at h
  ·rename_i e he
   split at h
   ·rename_i hk
    obtain ⟨hin, hk⟩ := h;have hin : 0 <= i /\ i < s.size := hin;obtain ⟨d, hd, hkc, -⟩ := Z1e hT he;rw [‹e.kc = 2›] at hkc;obtain rfl : d = .string := by cases d <;> simp [Zaw] at hkc; rfl
    have hlt : i.toNat < s.data.size := by have : s.size = s.data.size := rfl; omega
    refine ⟨_, .int .u8 (s.data[i.toNat]).toNat, ?_, ?_, hk⟩
    ·unfold Instr.index;have hg : s[i.toNat]? = some (s.data[i.toNat]) := by
      show (if h : i.toNat < s.size then some _ else none) = _;rw [dif_pos (show i.toNat < s.size from hlt)]; rfl
     simp [asIntOf, run_underlying hd w, hin.1, hg]
    ·have : ar.sget s (ar.tn i) = ((s.data[i.toNat]).toNat : Int) := by
      show ((Zqy s i.toNat : Nat) : Int) = _;unfold Zqy; rw [Array.getElem?_eq_getElem hlt]; rfl
     rw [this]; exact Z3d rfl
   ·exact h.elim
  ·exact h.elim
 ·obtain rfl := hy.v_inv;obtain ⟨vs, rfl, hl, hv, -⟩ := hx.agg_inv;exact arrc hl hv h _
 ·obtain rfl := hy.v_inv;obtain ⟨vs, rfl, hl, hv, -⟩ := hx.arr_inv;exact arrc hl hv h _
 ·exact h.elim
theorem Zm4 (hT : TOK P T) {t ty : TypeId} {x : D} {vx : Value} (hx : VR F μ x vx) (h : Zly ar T t K x) : ∃ d v, (Builtin.len_ #[t] ty #[vx]).run P w = .ok v w /\ VR F μ d v /\ K d := by
 unfold Zly at h
 split at h
 ·rename_i e he
  obtain ⟨d, hd, hkc, -⟩ := Z1e hT he;have sl : e.kc = 3 -> ∃ e', d = .slice e' := fun hk => by rw [hk] at hkc; cases d <;> simp [Zaw] at hkc; exact ⟨_, rfl⟩
  split at h
  ·rename_i hk
   obtain ⟨e', rfl⟩ := sl hk;obtain ⟨a, c, rfl, -⟩ := hx.sl_inv;exact ⟨_, _, by simp [Builtin.len_, run_underlying hd w, goInt]; rfl, Z3d rfl, h⟩
  ·rename_i hk
   obtain ⟨e', rfl⟩ := sl hk;obtain ⟨a, c, rfl, -⟩ := hx.o_inv;exact ⟨_, _, by simp [Builtin.len_, run_underlying hd w, goInt]; rfl, Z3d rfl, h⟩
  ·rename_i hk
   obtain ⟨e', rfl⟩ := sl hk;obtain rfl := hx.v_inv;exact ⟨_, .int .i64 0, by simp [Builtin.len_, run_underlying hd w, goInt], Z3d rfl, h⟩
  ·rename_i s hk
   obtain rfl : d = .string := by rw [hk] at hkc; cases d <;> simp [Zaw] at hkc <;> rfl
   obtain rfl := hx.v_inv;exact ⟨_, .int .i64 s.size, by simp [Builtin.len_, run_underlying hd w, goInt], Z3d rfl, h⟩
  ·exact h.elim
 ·exact h.elim
end
end Go.Abs

namespace Go.Abs
open Go
section
variable {P : Program} {T : TT} {F : Fz} {μ : Mu} {w : World} {K : D -> Prop}
def VRL (F : Fz) (μ : Mu) : List D -> List Value -> Prop
 | [], [] => True
 | d :: ds, v :: vs => VR F μ d v /\ VRL F μ ds vs
 | _, _ => False
theorem VRL.len : ∀ {ds : List D} {vs : List Value}, VRL F μ ds vs -> ds.length = vs.length
 | [], [], _ => rfl
 | _ :: _, _ :: _, h => by simp [VRL.len h.2]
 | [], _ :: _, h => h.elim
 | _ :: _, [], h => h.elim
theorem VRL.get : ∀ {ds : List D} {vs : List Value}, VRL F μ ds vs -> ∀ (i : Nat) (d : D) (v : Value), ds[i]? = some d -> vs[i]? = some v -> VR F μ d v
 | [], [], _, i, d, v, h, _ => by simp at h
 | _ :: _, _ :: _, h, 0, d, v, h1, h2 => by simp at h1 h2; subst h1 h2; exact h.1
 | _ :: _, _ :: _, h, i + 1, d, v, h1, h2 => VRL.get h.2 i d v (by simpa using h1) (by simpa using h2)
 | [], _ :: _, h, _, _, _, _, _ => h.elim
 | _ :: _, [], h, _, _, _, _, _ => h.elim
theorem Zjr {s : St} {a : Act} (h : ER F μ s a) : ∀ {xs : List Operand} {ds : List D}, Z34 (xs.map (evo s.env)) = some ds -> VRL F μ ds (xs.map a.eval)
 | [], ds, hd => by simp [Z34] at hd; subst hd; trivial
 | x :: xs, ds, hd => by
  simp only [List.map_cons] at hd ⊢
  cases hx : evo s.env x with
  | none => simp [hx, Z34] at hd
  | some d =>
   simp only [hx, Z34] at hd
   split at hd
   ·rename_i l hl; cases hd; exact ⟨h.evo hx, Zjr h hl⟩
   ·cases hd
theorem Zew {ty : TypeId} {mx : Bool} {s : St} {a : Act} (h : ER F μ s a) : ∀ (xs : List Operand) (k : IntKind) (x : Int), mm ar mx k x K (xs.map (evo s.env)) ->
  ∃ d v, ((xs.map a.eval).foldlM (if mx then Builtin.max2 else Builtin.min2) (.int k x)).run P w = .ok v w /\ VR F μ d v /\ K d
 | [], k, x, hk => ⟨_, _, by simp, Z3d rfl, hk⟩
 | o :: xs, k, x, hk => by
  simp only [List.map_cons] at hk ⊢
  cases ho : evo s.env o with
  | none => simp [ho, mm] at hk
  | some d =>
   rw [ho] at hk;unfold mm at hk
   split at hk
   ·rename_i h0; cases h0
   ·rename_i k' y r h0
    cases h0
    have hv := (h.evo ho).v_inv
    split at hk
    ·rename_i he
     subst he
     split at hk
     ·obtain ⟨d, v, h1, h2⟩ := Zew (ty := ty) h xs k (if y > x then y else x) hk;refine ⟨d, v, ?_, h2⟩;rw [hv];simpa [Builtin.max2] using h1
     ·obtain ⟨d, v, h1, h2⟩ := Zew (ty := ty) h xs k (if y < x then y else x) hk;refine ⟨d, v, ?_, h2⟩;rw [hv];simpa [Builtin.min2] using h1
    ·exact hk.elim
   ·exact hk.elim
theorem Zgl {ty : TypeId} {ts : Array TypeId} {mx : Bool} {s : St} {a : Act} (h : ER F μ s a) {xs : Array Operand} (hk : mmA ar mx K (xs.toList.map (evo s.env))) :
  ∃ d v, (if mx then Builtin.max_ ts ty (xs.map a.eval) else Builtin.min_ ts ty (xs.map a.eval)).run P w = .ok v w /\ VR F μ d v /\ K d := by
 obtain ⟨xs⟩ := xs
 cases xs with
 | nil => exact hk.elim
 | cons o xs =>
  simp only [List.map_cons] at hk
  cases ho : evo s.env o with
  | none => simp [ho, mmA] at hk
  | some d =>
   rw [ho] at hk;unfold mmA at hk
   split at hk
   ·rename_i k x r h0
    cases h0
    have hv := (h.evo ho).v_inv;obtain ⟨d, v, h1, h2⟩ := Zew (P := P) (w := w) (ty := ty) h xs k x hk;refine ⟨d, v, ?_, h2⟩
    cases mx
    ·simpa [Builtin.min_, hv] using h1
    ·simpa [Builtin.max_, hv] using h1
   ·exact hk.elim
theorem Zm5 {s : St} {a : Act} (h : ER F μ s a) {fn : Fn} {first caps : Array Operand} (hk : Zlz K fn first (caps.toList.map (evo s.env))) :
  ∃ d v, (Instr.makeFunc fn (first.map a.eval) (caps.map a.eval)).run P w = .ok v w /\ VR F μ d v /\ K d := by
 unfold Zlz at hk
 split at hk
 ·rename_i f cs hf hc
  have hl := Zjr h hc;obtain ⟨first⟩ := first;obtain rfl : first = [] := hf;refine ⟨_, .func (.func f) #[] (caps.map a.eval), by simp [Instr.makeFunc], .fn f cs _ (by rw [hl.len]; simp) (fun i c v h1 h2 => hl.get i c v h1 ?_), hk⟩;simpa [<- Array.getElem?_toList] using h2
 ·exact hk.elim
theorem Zm6 (hT : TOK P T) {t : TypeId} {x : D} {vx : Value} (hx : VR F μ x vx) (h : Zm0 T t K x) : ∃ d v, (Instr.makeInterface t vx).run P w = .ok v w /\ VR F μ d v /\ K d := by
 unfold Zm0 at h
 split at h
 ·rename_i e he
  obtain ⟨d, hd, hkc, -⟩ := Z1e hT he
  split at h
  ·exact h.elim
  ·rename_i hk
   refine ⟨_, .iface t vx, ?_, .ifc t x vx hx, h⟩;unfold Instr.makeInterface;rw [Sem.run_bind, run_underlying hd w]
   cases d <;> first | rfl | (simp [Zaw] at hkc; exact absurd hkc.symm hk)
 ·exact h.elim
theorem Zm7 (hT : TOK P T) {xt t : TypeId} {ok : Bool} {x : D} {vx : Value} (hx : VR F μ x vx) (h : Zm2 T t ok K x) : ∃ d v, (Instr.typeAssert vx xt t ok).run P w = .ok v w /\ VR F μ d v /\ K d := by
 have tup2 : ∀ {d : D} {v : Value} {b : Bool}, VR F μ d v -> VR F μ (.tup [d, .v (.bool b)]) (.tuple #[v, .bool b]) := fun {d v b} hd =>
  .tup _ _ rfl fun i c v' h1 h2 => by
   match i, h1, h2 with
   | 0, h1, h2 => simp at h1 h2; subst h1 h2; exact hd
   | 1, h1, h2 => simp at h1 h2; subst h1 h2; exact Z3d rfl
   | n + 2, h1, h2 => simp at h1
 have zero : ∀ {e : TE}, Z1d T t = some e -> ∃ z, (zeroValue t).run P w = .ok z w /\ VR F μ e.zero z := fun {e} he => by
  obtain ⟨i, d, z, h1, h2, h3, h4, h5, h6, h7, -⟩ := hT.at he;exact ⟨z, by simp [zeroValue, typeInfo, h1, h3], by rw [h7]; exact .cl _ _ (CR.ofV z)⟩
 unfold Zm2 at h
 split at h
 ·rename_i t' d
  obtain ⟨v, rfl, hd⟩ := hx.ifc_inv
  split at h
  ·rename_i e he
   obtain ⟨de, hde, hkc, -⟩ := Z1e hT he
   split at h
   ·exact h.elim
   ·rename_i hk
    have hni : ∀ ms, de ≠ .interface ms := fun ms e => by subst e; simp [Zaw] at hkc; exact hk hkc.symm
    split at h
    ·rename_i hd1
     have ht : t' = t := of_decide_eq_true hd1;refine ⟨_, .tuple #[v, .bool true], ?_, tup2 hd, h⟩;unfold Instr.typeAssert;rw [Sem.run_bind, run_underlying hde w]
     cases de <;> first | (exact absurd rfl (hni _)) | simp [ht]
    ·rename_i hd1
     have ht : t' = t := of_decide_eq_true hd1;refine ⟨_, v, ?_, hd, h⟩;unfold Instr.typeAssert;rw [Sem.run_bind, run_underlying hde w]
     cases de <;> first | (exact absurd rfl (hni _)) | simp [ht]
    ·rename_i hd1
     have ht : ¬ t' = t := of_decide_eq_false hd1;obtain ⟨z, hz, hzr⟩ := zero he;refine ⟨_, .tuple #[z, .bool false], ?_, tup2 hzr, h⟩;unfold Instr.typeAssert;rw [Sem.run_bind, run_underlying hde w]
     cases de <;> first | (exact absurd rfl (hni _)) | simp [ht, hz]
    ·exact h.elim
  ·exact h.elim
 ·obtain rfl := hx.v_inv
  split at h
  ·rename_i e he
   obtain ⟨de, hde, hkc, -⟩ := Z1e hT he
   split at h
   ·exact h.elim
   ·rename_i hk
    have hni : ∀ ms, de ≠ .interface ms := fun ms e => by subst e; simp [Zaw] at hkc; exact hk hkc.symm
    obtain ⟨z, hz, hzr⟩ := zero he;refine ⟨_, .tuple #[z, .bool false], ?_, tup2 hzr, h⟩;unfold Instr.typeAssert;rw [Sem.run_bind, run_underlying hde w]
    cases de <;> first | (exact absurd rfl (hni _)) | simp [hz]
   ·exact h.elim
  ·exact h.elim
 ·exact h.elim
theorem Zex {cs xs : List D} {off : Nat} (h : off + xs.length <= cs.length) (i : Nat) : (Z7l cs off xs)[i]? = if off <= i /\ i < off + xs.length then xs[i - off]? else cs[i]? := by
 unfold Z7l;have hl : (cs.take off).length = off := by rw [List.length_take]; omega
 by_cases h1 : i < off
 ·rw [List.append_assoc, List.getElem?_append_left (by omega), List.getElem?_take, if_pos h1, if_neg (by omega)]
 ·rw [List.append_assoc, List.getElem?_append_right (by omega), hl]
  by_cases h2 : i < off + xs.length
  ·rw [List.getElem?_append_left (by omega), if_pos ⟨by omega, h2⟩]
  ·rw [List.getElem?_append_right (by omega), List.getElem?_drop, if_neg (by omega)]
   congr 1; omega
theorem Zb3 {cs xs : List D} {off : Nat} (h : off + xs.length <= cs.length) : (Z7l cs off xs).length = cs.length := by
 unfold Z7l; simp; omega
structure CellsA (F : Fz) (μ : Mu) (cs : List D) (vs : Array Value) : Prop where
 len : cs.length = vs.size
 rel : ∀ (i : Nat) (c : D) (v : Value), cs[i]? = some c -> vs[i]? = some v -> VR F μ c v
 one : ∀ (i : Nat) (v : Value), vs[i]? = some v -> v.oneCell' = true
theorem Z98 (xs : List (Value × Nat)) (off : Nat) : ∀ vs : Array Value, (xs.foldl (fun cs (c, j) => cs.setIfInBounds (off + j) c) vs).size = vs.size := by
 induction xs with
 | nil => intro vs; rfl
 | cons x xs ih => intro vs; simp only [List.foldl_cons]; rw [ih]; simp
theorem Zb4 (off : Nat) : ∀ (xs : List Value) (k : Nat) (vs : Array Value), off + k + xs.length <= vs.size -> ∀ i,
  ((xs.zipIdx k).foldl (fun cs (c, j) => cs.setIfInBounds (off + j) c) vs)[i]? = if off + k <= i /\ i < off + k + xs.length then xs[i - (off + k)]? else vs[i]? := by
 intro xs
 induction xs with
 | nil => intro k vs _ i; simp; intro h1 h2; omega
 | cons x xs ih =>
  intro k vs hle i;simp only [List.zipIdx_cons, List.foldl_cons, List.length_cons] at hle ⊢;rw [ih (k + 1) _ (by simp; omega) i]
  by_cases h1 : off + (k + 1) <= i /\ i < off + (k + 1) + xs.length
  ·rw [if_pos h1, if_pos ⟨by omega, by omega⟩];have : i - (off + k) = (i - (off + (k + 1))) + 1 := by omega
   rw [this, List.getElem?_cons_succ]
  ·rw [if_neg h1, Array.getElem?_setIfInBounds]
   by_cases h2 : off + k = i
   ·rw [if_pos h2, if_pos (by omega), if_pos ⟨by omega, by omega⟩];have : i - (off + k) = 0 := by omega
    rw [this]; rfl
   ·rw [if_neg h2, if_neg (by omega)]
theorem Z4g {d : D} {v : Value} {xs : List D} (hv : VR F μ d v) (h : Z35 d = some xs) (ho : ∀ x, d = .v x -> x.oneCell' = true) : CellsA F μ xs v.cells := by
 have one : ∀ {v : Value}, v.oneCell' = true -> VR F μ d v -> xs = [d] -> CellsA F μ xs v.cells := fun {v} h1 h2 h3 => by
  subst h3;have hc : v.cells = #[v] := by cases v <;> simp [Value.oneCell'] at h1 <;> rfl
  rw [hc];refine ⟨rfl, fun i c v' e1 e2 => ?_, fun i v' e2 => ?_⟩
  ·match i, e1, e2 with
   | 0, e1, e2 => simp at e1 e2; subst e1 e2; exact h2
   | n + 1, e1, e2 => simp at e1
  ·match i, e2 with
   | 0, e2 => simp at e2; subst e2; exact h1
   | n + 1, e2 => simp at e2
 cases d
 case arr => cases h
 case tup => cases h
 case any => cases h
 case agg cs =>
  obtain rfl := Option.some.inj h;obtain ⟨vs, rfl, hl, hr, ho⟩ := hv.agg_inv;exact ⟨hl, hr, ho⟩
 case v x =>
  obtain rfl := hv.v_inv;exact one (ho _ rfl) hv (Option.some.inj h).symm
 all_goals
  refine one ?_ hv (Option.some.inj h).symm
  first
   | (cases hv with
    | cl _ _ hc => cases hc <;> rfl
    | _ => rfl)
   | (cases hv <;> first | rfl | (rename_i hc; cases hc <;> rfl))
theorem VR.v_one {x v : Value} (h : VR F μ (.v x) v) : x.oneCell' = true := by cases h with | cl _ _ h => cases h; assumption
theorem Z99 {place place' : Nat -> Option (Nat × Nat)} (hp : ∀ i p, place i = some p -> place' i = some p) {s : St} {a : Act} (h : ER F μ s a) : ∀ (parts : List (Nat × Operand)) (cs : List D) (vs : Array Value) (cs' : List D),
  CellsA F μ cs vs -> Zet place cs (parts.map fun (i, x) => (i, evo s.env x)) = some cs' -> ∃ vs', Instr.fill place' vs (parts.map fun (i, x) => (i, a.eval x)) = some vs' /\ CellsA F μ cs' vs'
 | [], cs, vs, cs', hc, he => by simp [Zet] at he; subst he; exact ⟨vs, rfl, hc⟩
 | (i, x) :: parts, cs, vs, cs', hc, he => by
  simp only [List.map_cons] at he ⊢
  cases hx : evo s.env x with
  | none => simp [hx, Zet] at he
  | some d =>
   rw [hx] at he;simp only [Zet] at he
   split at he
   ·rename_i off n xs hpl hlc
    split at he
    ·rename_i hb1 hb2
     have hb1 := Nat.eq_of_beq_eq_true hb1;have hb2 := Nat.le_of_ble_eq_true hb2;have hv := h.evo hx;have hcx := Z4g hv hlc (fun y e => by subst e; exact hv.v_one);have hsz : (a.eval x).cells.size = n := by rw [<- hcx.len, hb1]
     have hcs' : CellsA F μ (Z7l cs off xs) ((a.eval x).cells.zipIdx.foldl (fun cs (c, j) => cs.setIfInBounds (off + j) c) vs) := by
      have e1 : (a.eval x).cells.zipIdx.foldl (fun cs (c, j) => cs.setIfInBounds (off + j) c) vs = ((a.eval x).cells.toList.zipIdx 0).foldl (fun cs (c, j) => cs.setIfInBounds (off + j) c) vs := by
       rw [<- Array.foldl_toList, Array.toList_zipIdx]
      have hle : off + 0 + (a.eval x).cells.toList.length <= vs.size := by
       simp only [Array.length_toList, hsz]; have := hc.len; omega
      have hg := fun i => Zb4 off (a.eval x).cells.toList 0 vs hle i;rw [e1];refine ⟨by rw [Zb3 (by omega), Z98]; exact hc.len, fun i c v g1 g2 => ?_, fun i v g2 => ?_⟩
      ·rw [Zex (by omega)] at g1;rw [hg] at g2;simp only [Nat.add_zero, Array.length_toList, hsz] at g2;rw [hb1] at g1
       split at g1
       ·rename_i hh; rw [if_pos hh] at g2
        exact hcx.rel _ _ _ g1 (by simpa using g2)
       ·rename_i hh; rw [if_neg hh] at g2
        exact hc.rel _ _ _ g1 g2
      ·rw [hg] at g2
       split at g2
       ·exact hcx.one (i - (off + 0)) v (by simpa using g2)
       ·exact hc.one _ _ g2
     obtain ⟨vs', g1, g2⟩ := Z99 hp h parts _ _ cs' hcs' he;refine ⟨vs', ?_, g2⟩;unfold Instr.fill;rw [hp i _ hpl];simp only [hsz, ne_eq, not_true_eq_false, decide_false, Bool.false_or];rw [if_neg]
     ·exact g1
     ·have := hc.len; simp; omega
    ·cases he
   ·cases he
end
end Go.Abs

namespace Go.Abs
open Go
section
variable {P : Program} {T : TT} {F : Fz} {μ : Mu} {w : World} {K : D -> Prop}
theorem Zjs {α β : Type} (g : α -> Option β) : ∀ (l : List α) (r : List β), l.mapM g = some r -> ∀ i : Nat, r[i]? = (l[i]?).bind g
 | [], r, h, i => by simp at h; subst h; simp
 | x :: l, r, h, i => by
  simp only [List.mapM_cons, Option.bind_eq_bind, Option.pure_def] at h
  cases hx : g x with
  | none => simp [hx] at h
  | some y =>
   cases hr : l.mapM g with
   | none => simp [hx, hr] at h
   | some r' =>
    simp [hx, hr] at h;subst h
    cases i with
    | zero => simp [hx]
    | succ i => simpa using Zjs g l r' hr i
theorem Zjt {α β : Type} (g : α -> Option β) : ∀ (l : List α) (r : List β), l.mapM g = some r -> r.length = l.length
 | [], r, h => by simp at h; subst h; rfl
 | x :: l, r, h => by
  simp only [List.mapM_cons, Option.bind_eq_bind, Option.pure_def] at h
  cases hx : g x with
  | none => simp [hx] at h
  | some y =>
   cases hr : l.mapM g with
   | none => simp [hx, hr] at h
   | some r' =>
    simp [hx, hr] at h;subst h;simp [Zjt g l r' hr]
theorem Zm8 (hT : TOK P T) {t : TypeId} {e : TE} (he : Z1d T t = some e) {zs : List D} (hz : e.zero = .agg zs) {i : TypeInfo} {z : Value} (hi : P.info? t = some i) (hz' : i.zero = some z) : CellsA F μ zs z.cells /\ z = .agg z.cells := by
 obtain ⟨i', d, z', h1, h2, h3, h4, h5, h6, h7, h8, h9, -⟩ := hT.at he;rw [hi] at h1; cases h1;rw [hz'] at h3; cases h3;rw [hz] at h7;have hv : VR F μ (.agg zs) z := by rw [h7]; exact .cl _ _ (CR.ofV z)
 obtain ⟨vs, rfl, hl, hr, ho⟩ := hv.agg_inv;exact ⟨⟨hl, hr, ho⟩, rfl⟩
theorem Zm9 (hT : TOK P T) {t : TypeId} {s : St} {a : Act} (h : ER F μ s a) {parts : Array (Nat × Operand)} (hk : Zm1 T t (parts.toList.map fun (i, x) => (i, evo s.env x)) K) :
  ∃ d v, (Instr.build t (parts.map fun (i, x) => (i, a.eval x))).run P w = .ok v w /\ VR F μ d v /\ K d := by
 have fin : ∀ {cs : List D} {vs : Array Value}, P.built t (parts.toList.map fun (i, x) => (i, a.eval x)) = some vs -> CellsA F μ cs vs -> K (.agg cs) -> ∃ d v, (Instr.build t (parts.map fun (i, x) => (i, a.eval x))).run P w = .ok v w /\ VR F μ d v /\ K d :=
  fun {cs vs} hb hc hk => ⟨.agg cs, .agg vs, run_build w t _ vs (by simpa using hb), .agg _ _ hc.len hc.rel hc.one, hk⟩
 unfold Zm1 at hk
 split at hk
 ·rename_i e he
  obtain ⟨i, d, z, h1, h2, h3, h4, h5, h6, h7, h8, h9, h10, h11, h12, h13, h14, -⟩ := hT.at he
  split at hk
  ·rename_i zs hzs
   obtain ⟨hzc, hze⟩ := Zm8 (F := F) (μ := μ) hT he hzs h1 h3
   split at hk
   ·rename_i hkc
    split at hk
    ·exact hk.elim
    ·rename_i hok
     split at hk
     ·rename_i cs hf
      rw [hkc] at h13;obtain ⟨fs, rfl⟩ : ∃ fs, d = .struct fs := by cases d <;> simp [Zaw] at h13; exact ⟨_, rfl⟩
      rw [hok] at h14;obtain ⟨places, hpl⟩ := Option.isSome_iff_exists.1 h14.symm;have hpp : ∀ j p, Zib e j = some p -> (places.toArray[·]?) j = some p := fun j p hp => by
       unfold Zib at hp
       split at hp
       ·rename_i off n ag hfd
        cases hp
        obtain ⟨fs', fl, g1, g2, rfl, rfl, -⟩ := Zlv hT he hfd;rw [h2] at g1; cases g1;show places.toArray[j]? = _;have this := Zjs _ _ _ hpl j;have e0 : fs.toList[j]? = some fl := by rw [Array.getElem?_toList]; exact g2
        rw [e0] at this;have hlt : j < places.length := by
         have hj := (Array.getElem?_eq_some_iff.1 g2).1;have hlen := Zjt _ _ _ hpl;simp at hlen; omega
        have hto : places.toArray[j]? = places[j]? := by simp
        rw [hto]
        cases hq : P.info? fl.type with
        | none => rw [List.getElem?_eq_getElem hlt] at this; simp [hq] at this
        | some q => rw [this]; simp [hq, Program.cellsOf]
       ·cases hp
      obtain ⟨vs', g1, g2⟩ := Z99 hpp h parts.toList zs z.cells cs hzc hf;refine fin ?_ g2 hk;unfold Program.built;rw [h1, h2];simp only [h3, hpl];exact g1
     ·exact hk.elim
   ·rename_i hkc
    split at hk
    ·rename_i n el hel
     split at hk
     ·rename_i e2 he2
      split at hk
      ·rename_i cs hf
       obtain ⟨i2, d2, z2, k1, k2, k3, k4, -⟩ := hT.at he2;obtain ⟨vs', g1, g2⟩ := Z99 (place' := fun i => some (i * e2.size, e2.size)) (fun _ _ hp => hp) h parts.toList zs z.cells cs hzc hf;refine fin ?_ g2 hk;unfold Program.built;rw [h1, Zev hT he hel];simp only [h3, k1];rw [<- k4];exact g1
      ·exact hk.elim
     ·exact hk.elim
    ·exact hk.elim
   ·exact hk.elim
  ·exact hk.elim
 ·exact hk.elim
theorem Z9a {s : St} {a : Act} (h : ER F μ s a) {x : Operand} {n : Int} (hx : Go.Abs.intOf (evo s.env x) = some n) : ∃ k, a.eval x = .int k n := by
 cases hq : evo s.env x with
 | none => simp [hq, Go.Abs.intOf] at hx
 | some d =>
  rw [hq] at hx;unfold Go.Abs.intOf at hx
  split at hx
  ·rename_i k m h0
   cases h0; cases hx
   exact ⟨k, (h.evo hq).v_inv⟩
  ·cases hx
def bnd (s : St) (o : Option Operand) (dflt l : Int) : Prop := match o with | none => l = dflt | some x => Go.Abs.intOf (evo s.env x) = some l
theorem Z8f {s : St} {a : Act} (h : ER F μ s a) (isS : Bool) (len cap : Nat) (lo hi : Option Operand) (l hh : Int)
  (hl : bnd s lo 0 l) (hhi : bnd s hi len hh)
  (h0 : 0 <= l) (h1 : l <= hh) (h2 : hh <= cap) : (Instr.sliceBounds isS len cap (lo.map a.eval) (hi.map a.eval) none).run P w = .ok (l.toNat, hh.toNat, cap) w := by
 unfold Instr.sliceBounds;have e1 : hh.toNat = hh := Int.toNat_of_nonneg (by omega)
 cases lo with
 | none =>
  obtain rfl : l = 0 := hl
  cases hi with
  | none =>
   obtain rfl : hh = len := hhi;simp
  | some y =>
   obtain ⟨k2, e2⟩ := Z9a h hhi;simp [Instr.sliceBound, asIntOf, e2, show 0 <= hh by omega, h2]
 | some x =>
  obtain ⟨k1, e3⟩ := Z9a h hl
  cases hi with
  | none =>
   obtain rfl : hh = len := hhi;simp [Instr.sliceBound, asIntOf, e3, h0, h1]
  | some y =>
   obtain ⟨k2, e2⟩ := Z9a h hhi;simp [Instr.sliceBound, asIntOf, e2, e3, show 0 <= hh by omega, h2, h0, h1, e1]
theorem Zma (hT : TOK P T) {t : TypeId} {s : St} {a : Act} (h : ER F μ s a) {x : D} {vx : Value} (hx : VR F μ x vx) {lo hi : Option Operand} (hk : Zjp ar T t (lo.map (evo s.env)) (hi.map (evo s.env)) K x) :
  ∃ d v, (Instr.sliceAt t vx (lo.map a.eval) (hi.map a.eval) none).run P w = .ok v w /\ VR F μ d v /\ K d := by
 have slc : ∀ {sz el : Nat} {es : List D} {e e2 : TE} {l hh : Int}, VR F μ (.sl sz es) vx -> Z1d T t = some e -> e.el = some (none, el) -> Z1d T el = some e2 -> sz = e2.size ->
   bnd s lo 0 l -> bnd s hi es.length hh ->
   0 <= l -> l <= hh -> hh <= es.length -> K (.sl sz ((es.take hh.toNat).drop l.toNat)) -> ∃ d v, (Instr.sliceAt t vx (lo.map a.eval) (hi.map a.eval) none).run P w = .ok v w /\ VR F μ d v /\ K d :=
  fun {sz el es e e2 l hh} hx he hel he2 hsz hl hhi h0 h1 h2 hk => by
  have hu := Z61 hT he hel;have hs := Z6i (w := w) hT he2;have hlen : ((es.take hh.toNat).drop l.toNat).length = hh.toNat - l.toNat := by simp; omega
  cases hx with
  | cl _ _ hc =>
   cases hc with
   | slE _ ad cap =>
    have hb := Z8f (P := P) (w := w) h true 0 cap lo hi l hh hl (by simpa using hhi) h0 h1 (by simp at h2; omega);refine ⟨_, .slice (if cap = l.toNat then ad else ad.map (·.add (l.toNat * e2.size))) (hh.toNat - l.toNat) (cap - l.toNat), ?_, ?_, hk⟩
    ·unfold Instr.sliceAt;rw [Sem.run_bind, run_underlying hu w];unfold Instr.slice;simp only [Result.andThen_ok, Sem.run_bind, run_underlying hu w, hb, hs];rfl
    ·simp only [List.take_nil, List.drop_nil];have : hh.toNat - l.toNat = 0 := by simp at h2; omega
     rw [this]; exact .cl _ _ (.slE _ _ _)
   | sl _ _ b o cap val hc hz hf hv =>
    have hb := Z8f (P := P) (w := w) h true es.length cap lo hi l hh hl hhi h0 h1 (by omega);refine ⟨_, .slice (if cap = l.toNat then some ⟨b, o, none⟩ else some ((⟨b, o, none⟩ : Addr).add (l.toNat * e2.size))) (hh.toNat - l.toNat) (cap - l.toNat), ?_, ?_, hk⟩
    ·unfold Instr.sliceAt;rw [Sem.run_bind, run_underlying hu w];unfold Instr.slice;simp only [Result.andThen_ok, Sem.run_bind, run_underlying hu w, hb, hs];rfl
    ·rw [<- hlen]
     by_cases hz0 : hh.toNat - l.toNat = 0
     ·have : (es.take hh.toNat).drop l.toNat = [] := List.eq_nil_of_length_eq_zero (by rw [hlen, hz0]);rw [this]; exact .cl _ _ (.slE _ _ _)
     ·rw [if_neg (by omega), add_lit];have gt : ∀ i x, ((es.take hh.toNat).drop l.toNat)[i]? = some x -> es[l.toNat + i]? = some x := fun i x hi => by
       rw [List.getElem?_drop, List.getElem?_take] at hi
       split at hi
       ·exact hi
       ·cases hi
      refine .cl _ _ (.sl sz _ b (o + l.toNat * e2.size) (cap - l.toNat) (fun i r => val (l.toNat + i) r) (by rw [hlen]; omega) (fun i e hi => hz _ _ (gt i e hi)) (fun i e r c hi hr => ?_) (fun i e r c hi hr => hv _ _ _ _ (gt i e hi) hr));have := hf _ _ _ _ (gt i e hi) hr;have e0 : o + l.toNat * e2.size + i * sz + r = o + (l.toNat + i) * sz + r := by rw [hsz, Nat.add_mul]; omega
      rw [e0]; exact this
 have str : ∀ {b : ByteArray} {e : TE} {l hh : Int}, Z1d T t = some e -> e.kc = 2 -> vx = .string b -> bnd s lo 0 l -> bnd s hi b.size hh ->
   0 <= l -> l <= hh -> hh <= b.size -> K (.v (.string (b.extract l.toNat hh.toNat))) -> ∃ d v, (Instr.sliceAt t vx (lo.map a.eval) (hi.map a.eval) none).run P w = .ok v w /\ VR F μ d v /\ K d :=
  fun {b e l hh} he hkc hvx hl hhi h0 h1 h2 hk => by
  subst hvx;obtain ⟨d, hd, hkc', -⟩ := Z1e hT he;rw [hkc] at hkc';obtain rfl : d = .string := by cases d <;> simp [Zaw] at hkc' <;> rfl
  have hb := Z8f (P := P) (w := w) h false b.size b.size lo hi l hh hl hhi h0 h1 (by omega);refine ⟨_, .string (b.extract l.toNat hh.toNat), ?_, Z3d rfl, hk⟩;unfold Instr.sliceAt;rw [Sem.run_bind, run_underlying hd w];unfold Instr.slice;simp only [Result.andThen_ok, Sem.run_bind, run_underlying hd w];simp [hb]
 unfold Zjp at hk
 split at hk
 ·rename_i sz es
  split at hk
  ·rename_i e he
   split at hk
   ·rename_i el hel
    split at hk
    ·rename_i e2 he2
     cases hsz : Nat.beq sz e2.size with
     | false => rw [hsz] at hk; cases lo <;> cases hi <;> exact hk.elim
     | true =>
      rw [hsz] at hk;have hsz := Nat.eq_of_beq_eq_true hsz
      cases lo with
      | none =>
       cases hi with
       | none => exact slc hx he hel he2 hsz (l := 0) (hh := es.length) rfl rfl (by omega) (by omega) (by omega) (by simpa using hk)
       | some y =>
        simp only [Option.map_none, Option.map_some] at hk
        split at hk
        ·rename_i l hl
         obtain ⟨⟨h0, h1, h2⟩, hk⟩ := hk;exact slc hx he hel he2 hsz (l := 0) (hh := l) rfl hl (by omega) h1 h2 hk
        ·exact hk.elim
      | some x =>
       cases hi with
       | none =>
        simp only [Option.map_none, Option.map_some] at hk
        split at hk
        ·rename_i l hl
         obtain ⟨⟨h0, h1, h2⟩, hk⟩ := hk;exact slc hx he hel he2 hsz (l := l) (hh := es.length) hl rfl h0 h1 h2 hk
        ·exact hk.elim
       | some y =>
        simp only [Option.map_some] at hk
        split at hk
        ·rename_i l hh hl hr
         obtain ⟨⟨h0, h1, h2⟩, hk⟩ := hk;exact slc hx he hel he2 hsz (l := l) (hh := hh) hl hr h0 h1 h2 hk
        ·exact hk.elim
    ·exact hk.elim
   ·exact hk.elim
  ·exact hk.elim
 ·rename_i b
  have hvx := hx.v_inv
  split at hk
  ·rename_i e he
   by_cases hkc : e.kc = 2
   ·rw [hkc] at hk
    cases lo with
    | none =>
     cases hi with
     | none =>
      refine str he hkc hvx (l := 0) (hh := b.size) rfl rfl (by omega) (by omega) (by omega) ?_;have : b.extract (Int.toNat 0) (Int.toNat b.size) = b := by simp
      rw [this]; exact hk
     | some y =>
      simp only [Option.map_none, Option.map_some] at hk
      split at hk
      ·rename_i l hl
       obtain ⟨⟨h0, h1, h2⟩, hk⟩ := hk;exact str he hkc hvx (l := 0) (hh := l) rfl hl (by omega) h1 h2 hk
      ·exact hk.elim
    | some x =>
     cases hi with
     | none =>
      simp only [Option.map_none, Option.map_some] at hk
      split at hk
      ·rename_i l hl
       obtain ⟨⟨h0, h1, h2⟩, hk⟩ := hk;exact str he hkc hvx (l := l) (hh := b.size) hl rfl h0 h1 h2 hk
      ·exact hk.elim
     | some y =>
      simp only [Option.map_some] at hk
      split at hk
      ·rename_i l hh hl hr
       obtain ⟨⟨h0, h1, h2⟩, hk⟩ := hk;exact str he hkc hvx (l := l) (hh := hh) hl hr h0 h1 h2 hk
      ·exact hk.elim
   ·exfalso
    revert hk hkc
    generalize e.kc = n
    intro hk hkc
    cases lo <;> cases hi <;> simp only [Option.map_none, Option.map_some] at hk <;> (split at hk <;> first | exact hkc rfl | exact hk)
  ·exact hk.elim
 ·rename_i b n cap
  have hvx := hx.v_inv;have slv : ∀ {el : Nat} {e e2 : TE} {l hh : Int}, Z1d T t = some e -> e.el = some (none, el) -> Z1d T el = some e2 -> bnd s lo 0 l -> bnd s hi n hh -> 0 <= l -> l <= hh -> hh <= cap ->
    K (.v (.slice (if cap = l.toNat then some ⟨b, 0, none⟩ else some ⟨b, l.toNat * e2.size, none⟩) (hh.toNat - l.toNat) (cap - l.toNat))) -> ∃ d v, (Instr.sliceAt t vx (lo.map a.eval) (hi.map a.eval) none).run P w = .ok v w /\ VR F μ d v /\ K d :=
   fun {el e e2 l hh} he hel he2 hl hhi h0 h1 h2 hk => by
   have hu := Z61 hT he hel;have hs := Z6i (w := w) hT he2;have hb := Z8f (P := P) (w := w) h true n cap lo hi l hh hl hhi h0 h1 h2;refine ⟨_, .slice (if cap = l.toNat then some ⟨b, 0, none⟩ else some ⟨b, l.toNat * e2.size, none⟩) (hh.toNat - l.toNat) (cap - l.toNat), ?_, Z3d (by split <;> rfl), hk⟩;rw [hvx];unfold Instr.sliceAt;rw [Sem.run_bind, run_underlying hu w];unfold Instr.slice;simp only [Result.andThen_ok, Sem.run_bind, run_underlying hu w, hb, hs];have e0 : (⟨b, 0, none⟩ : Addr).add (l.toNat * e2.size) = ⟨b, l.toNat * e2.size, none⟩ := by rw [add_lit]; simp
   simp only [Option.map_some, e0];rfl
  split at hk
  ·rename_i e he
   split at hk
   ·rename_i el hel
    split at hk
    ·rename_i e2 he2
     cases lo with
     | none =>
      cases hi with
      | none => exact hk.elim
      | some y =>
       simp only [Option.map_none, Option.map_some] at hk
       split at hk
       ·rename_i hh hr
        obtain ⟨⟨h0, h1⟩, hk⟩ := hk;refine slv he hel he2 (l := 0) (hh := hh) rfl hr (by omega) h0 h1 ?_;have e3 : (if cap = Int.toNat 0 then some (⟨b, 0, none⟩ : Addr) else some ⟨b, Int.toNat 0 * e2.size, none⟩) = some ⟨b, 0, none⟩ := by simp
        rw [e3]; exact hk
       ·exact hk.elim
     | some x =>
      cases hi with
      | none =>
       simp only [Option.map_none, Option.map_some] at hk
       split at hk
       ·rename_i l hl
        obtain ⟨⟨h0, h1, h2⟩, hk⟩ := hk;exact slv he hel he2 (l := l) (hh := n) hl rfl h0 h1 (by omega) hk
       ·exact hk.elim
      | some y => exact hk.elim
    ·exact hk.elim
   ·exact hk.elim
  ·exact hk.elim
 ·exact hk.elim
theorem Zju {d : D} {v : Value} (h : VR F μ d v) (hs : Zr0 d = true) : ∃ a n c, v = .slice a n c := by
 cases d <;> simp [Zr0] at hs
 case sl => obtain ⟨a, c, e, -⟩ := h.sl_inv; exact ⟨a, _, c, e⟩
 case o => obtain ⟨a, c, e, -⟩ := h.o_inv; exact ⟨a, _, c, e⟩
 case z0 => cases h with | cl _ _ h => cases h with | z0 a => exact ⟨a, 0, 0, rfl⟩
 case v x =>
  split at hs
  all_goals first
   | cases hs; done
   | (rename_i e; first | cases e | skip)
  all_goals first
   | (obtain rfl := h.v_inv; exact ⟨_, _, _, rfl⟩)
theorem Zey {d : Option D} {n : Int} (h : intOf d = some n) : ∃ k, d = some (.v (.int k n)) := by
 unfold intOf at h; split at h
 ·cases h; exact ⟨_, rfl⟩
 ·cases h
theorem Zjv (hT : TOK P T) {t : TypeId} {s : St} {a : Act} (h : ER F μ s a) {x : D} {vx : Value} (hx : VR F μ x vx) {lo hi : Option Operand} {mx : Operand} (hk : Zeu T t lo (hi.map (evo s.env)) (evo s.env mx) K x) :
  ∃ d v, (Instr.sliceAt t vx (lo.map a.eval) (hi.map a.eval) (some (a.eval mx))).run P w = .ok v w /\ VR F μ d v /\ K d := by
 unfold Zeu at hk
 split at hk
 ·rename_i e he hs
  split at hk
  ·rename_i el hel
   split at hk
   ·rename_i e2 hh he2 hhi
    split at hk
    ·rename_i i1 i2
     obtain ⟨ad, n, c, rfl⟩ := Zju hx hs
     cases hi with
     | none => cases hhi
     | some ho =>
      simp only [Option.map_some, Option.some.injEq] at hhi;obtain ⟨k1, e1⟩ := Zey i1;obtain ⟨k2, e3⟩ := Zey i2;have v1 := (h.evo (hhi.trans e1)).v_inv;have v2 := (h.evo e3).v_inv;have hu := Z61 hT he hel;have hsz := Z6i (w := w) hT he2;refine ⟨.z0, .slice ad 0 0, ?_, .cl _ _ (.z0 _), hk⟩;unfold Instr.sliceAt;rw [Sem.run_bind, run_underlying hu w];unfold Instr.slice;simp only [Result.andThen_ok, Sem.run_bind, run_underlying hu w];simp [Instr.sliceBounds, Instr.sliceBound, asIntOf, v1, v2, hsz]
    ·exact hk.elim
   ·exact hk.elim
  ·exact hk.elim
 ·exact hk.elim
theorem Z7d (hT : TOK P T) {t : TypeId} {kn : Nat} {ee : TE} (h : Zc3 T t = some (kn, ee)) : ∃ kt et, P.underlying t = some (.map kt et) /\ Z3e P 6 kt = some (Nat.max 1 kn) /\ Z3j P kt = (kn != 0) /\ Z1d T et = some ee := by
 unfold Zc3 at h
 split at h
 ·rename_i e he
  split at h
  ·rename_i kt et hmp
   split at h
   ·rename_i ek ee' hek hee
    obtain ⟨i, d, z, h1, h2, h3, h4, h5, h6, h7, h8, h9, h10, h11, h12, h13, h14, h15, h16⟩ := hT.at he;have hd : P.underlying t = some (.map kt et) := by
     rw [h2];rw [hmp] at h15
     cases d <;> simp at h15
     obtain ⟨rfl, rfl⟩ := h15; rfl
    split at h
    ·rename_i n hf ha
     cases h
     obtain ⟨-, f2, f3⟩ := Zef hT hek hf;exact ⟨kt, et, hd, by rw [f2, show Nat.max 1 (_ + 1) = _ + 1 from Nat.max_eq_right (by omega)], by rw [<- f3, ha]; rfl, hee⟩
    ·rename_i hf ha
     cases h
     obtain ⟨-, f2, f3⟩ := Zef hT hek hf;exact ⟨kt, et, hd, by rw [f2]; rfl, by rw [<- f3, ha]; rfl, hee⟩
    ·cases h
   ·cases h
  ·cases h
 ·cases h
theorem Zjw {kn : Nat} {d : D} {l : List Int} {v : Value} (h : Zu7 kn d l) (hv : VR F μ d v) : v = Z1k (kn != 0) l /\ l.length = Nat.max 1 kn := by
 unfold Zu7 at h
 split at h
 ·subst h;rw [hv.v_inv];exact ⟨by simp [Z1k], rfl⟩
 ·rename_i n l
  obtain ⟨rfl, hl⟩ := h;rw [Z97 hv];exact ⟨by simp [Z1k], by rw [hl]; simp⟩
 ·exact h.elim
theorem Zr2 {l : List (List Int × D)} {k : List Int} : (l.map (·.1)).findIdx? (· == k) = l.findIdx? (·.1 == k) := by
 induction l with
 | nil => rfl
 | cons x l ih => simp only [List.map_cons, List.findIdx?_cons, ih]
theorem find_at : ∀ {l : List (List Int × D)} {k : List Int} {j : Nat}, l.findIdx? (·.1 == k) = some j -> ∃ x, l[j]? = some x /\ l.find? (·.1 == k) = some x /\ x.1 = k
 | [], k, j, h => by simp at h
 | x :: l, k, j, h => by
  rw [List.findIdx?_cons] at h
  by_cases e : (x.1 == k) = true
  ·rw [if_pos e] at h; cases h;exact ⟨x, rfl, by simp [List.find?_cons, e], by simpa using e⟩
  ·rw [if_neg e] at h
   cases hf : l.findIdx? (·.1 == k) with
   | none => rw [hf] at h; cases h
   | some i =>
    rw [hf] at h;simp at h;subst h;obtain ⟨y, h1, h2, h3⟩ := find_at hf;exact ⟨y, by simpa using h1, by simp [List.find?_cons, e]; exact h2, h3⟩
theorem Zp8 {l : List (List Int × D)} {k : List Int} (h : l.findIdx? (·.1 == k) = none) : l.find? (·.1 == k) = none := by
 induction l with
 | nil => rfl
 | cons x l ih =>
  rw [List.findIdx?_cons] at h
  by_cases e : (x.1 == k) = true
  ·rw [if_pos e] at h; cases h
  ·rw [if_neg e] at h;rw [List.find?_cons];simp only [e]
   apply ih
   cases hf : l.findIdx? (·.1 == k) with
   | none => rfl
   | some i => rw [hf] at h; cases h
theorem Zr3 (hT : TOK P T) {t : TypeId} {e : TE} (he : Z1d T t = some e) : ∃ z, (zeroValue t).run P w = .ok z w /\ VR F μ e.zero z := by
 obtain ⟨i, d, z, h1, h2, h3, h4, h5, h6, h7, -⟩ := hT.at he;exact ⟨z, by simp [zeroValue, typeInfo, h1, h3], by rw [h7]; exact .cl _ _ (CR.ofV z)⟩
theorem Zgm {ok : Bool} {d : D} {v : Value} {b : Bool} (hv : VR F μ d v) (h : okA ok K d b) : ∃ x, VR F μ x (if ok then .tuple #[v, .bool b] else v) /\ K x := by
 cases ok with
 | false => exact ⟨d, hv, h⟩
 | true =>
  refine ⟨_, .tup _ _ rfl fun i c u hc hu => ?_, h⟩
  match i, hc, hu with
  | 0, hc, hu => simp at hc hu; subst hc; subst hu; exact hv
  | 1, hc, hu => simp at hc hu; subst hc; subst hu; exact .cl _ _ (.v _ rfl)
  | i + 2, hc, hu => simp at hc
structure EntsR (F : Fz) (kn : Nat) (es : Array MapEntry) (ents : List (List Int × D)) : Prop where
 size : es.size = ents.length
 at_ : ∀ (i : Nat) (e : MapEntry) (x : List Int × D), es[i]? = some e -> ents[i]? = some x -> e.key = Z1k (kn != 0) x.1 /\ x.1.length = Nat.max 1 kn /\ CR F x.2 e.val
theorem Zb5 (hT : TOK P T) {t : TypeId} {kn : Nat} {kt : TypeId} (h2 : Z3e P 6 kt = some (Nat.max 1 kn)) (h3 : Z3j P kt = (kn != 0)) {es : Array MapEntry} {ents : List (List Int × D)} (hr : EntsR F kn es ents) {l : List Int} (hl : l.length = Nat.max 1 kn) :
  (Instr.findKey kt (Z1k (kn != 0) l) es.toList).run P w = .ok ((ents.findIdx? (·.1 == l)).bind fun j => (es[j]?).map fun e => (j, e.val)) w := by
 have := Zd2 (P := P) (m := 6) (by omega) h2 l hl w es.toList (ents.map (·.1)) (by simpa using hr.size) (fun i e k he hk => by
  rw [List.getElem?_map, Option.map_eq_some_iff] at hk
  obtain ⟨x, hx, rfl⟩ := hk
  obtain ⟨a, b, -⟩ := hr.at_ i e x (by simpa using he) hx
  exact ⟨by rw [h3]; exact a, b⟩)
 rw [h3, Zr2] at this;rw [this];simp
theorem Zp9 (hT : TOK P T) {H : List Blk} (hr : HR F μ H w) {t : TypeId} {ok : Bool} {m key : D} {vm vk : Value} (hm : VR F μ m vm) (hk : VR F μ key vk) (h : Zea ar T H t ok K key m) :
  ∃ d v, (Instr.lookup t vm vk ok).run P w = .ok v w /\ VR F μ d v /\ K d := by
 have main : ∀ {kn : Nat} {ee : TE} {es : Array MapEntry} {ents : List (List Int × D)} {l : List Int} {v0 : Option Nat}, Zc3 T t = some (kn, ee) -> Zu7 kn key l -> EntsR F kn es ents ->
   (vm = .map none /\ es = #[] ∨ ∃ b c, vm = .map (some b) /\ w.heap[b]? = some (.map es c)) -> (∃ d, ar.mget ents l ee.zero = some d /\ okA ok K d (ar.mhas ents l)) ->
   ∃ d v, (Instr.lookup t vm vk ok).run P w = .ok v w /\ VR F μ d v /\ K d := fun {kn ee es ents l v0} hmt hkd her hvm ⟨d, hd, hok⟩ => by
  obtain ⟨kt, et, u1, u2, u3, u4⟩ := Z7d hT hmt;obtain ⟨rfl, hl⟩ := Zjw hkd hk;have hfind := Zb5 (P := P) (w := w) (F := F) (T := T) (t := t) hT u2 u3 her hl;have hchk : ∀ em, (Instr.checkKey em 10000 kt (Z1k (kn != 0) l)).run P w = .ok () w := fun em => by
   have := Z5d (P := P) em 6 9994 kt _ u2 l w hl;rw [u3] at this; exact this
  obtain ⟨z, hz, hzv⟩ := Zr3 (P := P) (F := F) (μ := μ) (w := w) hT u4;have hget : ar.mget ents l ee.zero = some (((ents.find? (·.1 == l)).map (·.2)).getD ee.zero) := rfl;rw [hget] at hd
  cases hd
  have fin : ∀ {r : Option (Nat × Value)} {val : Value} {b : Bool}, ((ents.findIdx? (·.1 == l)).bind fun j => (es[j]?).map fun e => (j, e.val)) = r -> (match r with | some (_, v) => val = v /\ b = true | none => val = z /\ b = false) ->
    (Instr.lookup t vm (Z1k (kn != 0) l) ok).run P w = .ok (if ok then .tuple #[val, .bool b] else val) w := fun {r val b} hr hv => by
   rw [hr] at hfind;rcases hvm with ⟨rfl, rfl⟩ | ⟨bb, c, rfl, hb⟩
   all_goals
    unfold Instr.lookup;simp only [Sem.run_bind, run_underlying u1, Result.andThen_ok, Sem.run_pure]
    try simp only [getObj, Sem.run, hb]
    cases r with
    | none =>
     obtain ⟨rfl, rfl⟩ := hv;simp [hchk, hfind, hz]
    | some p =>
     obtain ⟨i, v⟩ := p;obtain ⟨rfl, rfl⟩ := hv;simp [hchk, hfind]
  cases hf : ents.findIdx? (·.1 == l) with
  | none =>
   have hn := Zp8 hf;have hh : ar.mhas ents l = false := by show (ents.find? _).isSome = false; rw [hn]; rfl
   rw [hn] at hok;rw [hh] at hok;obtain ⟨x, x1, x2⟩ := Zgm (v := z) (by simpa using hzv) hok;exact ⟨x, _, fin (r := none) (by rw [hf]; rfl) ⟨rfl, rfl⟩, x1, x2⟩
  | some j =>
   obtain ⟨x0, g1, g2, g3⟩ := find_at hf;have hj : j < es.size := by rw [her.size]; exact (List.getElem?_eq_some_iff.1 g1).1
   have hej : es[j]? = some es[j] := Array.getElem?_eq_getElem hj;obtain ⟨-, -, e3⟩ := her.at_ j _ _ hej g1;have hh : ar.mhas ents l = true := by show (ents.find? _).isSome = true; rw [g2]; rfl
   rw [g2] at hok;rw [hh] at hok;obtain ⟨x, x1, x2⟩ := Zgm (v := es[j].val) (.cl _ _ (by simpa using e3)) hok;exact ⟨x, _, fin (r := some (j, es[j].val)) (by rw [hf]; simp [hej]) ⟨rfl, rfl⟩, x1, x2⟩
 unfold Zea at h
 split at h
 ·split at h
  ·rename_i kn ee hmt
   obtain ⟨l, hkd, hok⟩ := h.out;exact main (es := #[]) (ents := []) (v0 := none) hmt hkd ⟨rfl, fun i e x he => by simp at he⟩ (.inl ⟨hm.v_inv, rfl⟩) ⟨_, rfl, hok⟩
  ·exact h.elim
 ·rename_i k
  obtain ⟨b, mm, rfl, hμ⟩ : ∃ b m, vm = .map (some b) /\ μ k = some (some (b, m)) := by cases hm with | cl _ _ hc => cases hc | mv _ b m hμ => exact ⟨b, m, rfl, hμ⟩
  split at h
  ·rename_i kn ee kn' ents hmt hb
   split at h
   ·rename_i hkn
    obtain rfl := Nat.eq_of_beq_eq_true hkn;obtain ⟨l, hkd, hok⟩ := h.out;have hob : Z13 H k = some (.mp kn ents) := by rw [Z1u] at hb; rw [Z19 hb]; rfl
    obtain ⟨b', es, clock, o1, o2, o3, o4, o5, o6, o7⟩ := hr.obj _ _ hob (by rw [hμ]; simp);rw [hμ] at o1; cases o1;exact main (v0 := none) hmt hkd ⟨o3, o6⟩ (.inr ⟨b, clock, rfl, o2⟩) hok.out
   ·exact h.elim
  ·rename_i kn ee kn' ents bs clock hmt hb
   split at h
   ·rename_i hkn
    obtain rfl := Nat.eq_of_beq_eq_true hkn;obtain ⟨l, hkd, hok⟩ := h.out;have hob : Z13 H k = some (.mpx kn ents bs clock) := by rw [Z1u] at hb; rw [Z19 hb]; rfl
    obtain ⟨b', es, o1, o2, o3, o4, o5, o5', o6, o7⟩ := hr.obj _ _ hob (by rw [hμ]; simp);rw [hμ] at o1; cases o1;exact main (v0 := none) hmt hkd ⟨o3, o6⟩ (.inr ⟨b, clock, rfl, o2⟩) hok.out
   ·exact h.elim
  ·exact h.elim
 ·exact h.elim
end
end Go.Abs

namespace Go.Abs
open Go
section
variable {P : Program} {T : TT} {F : Fz} {μ : Mu} {w : World} {K : D -> Prop}
theorem Zez (hT : TOK P T) {s : St} {a : Act} (hr : HR F μ s.H w) (h : ER F μ s a) {o : Oper} (hk : Z1q ar T s K o.op) :
    (∀ c, o.op ≠ .defer c) /\ ∃ d v, (execOp a.eval o).run P w = .ok (.value v) w /\ VR F μ d v /\ K d := by
  have lift : ∀ {x : Sem Value}, (∃ d v, x.run P w = .ok v w /\ VR F μ d v /\ K d) -> execOp a.eval o = (do pure (.value (<- x))) -> ∃ d v, (execOp a.eval o).run P w = .ok (.value v) w /\ VR F μ d v /\ K d := fun {x} ⟨d, v, h1, h2⟩ he =>
    ⟨d, v, by rw [he]; simp [h1], h2⟩
  obtain ⟨dst, op, type, pos, after, guard⟩ := o
  simp only at hk ⊢
  cases op <;> try exact hk.elim
  case move x =>
    refine ⟨fun c e => (by cases e), ?_⟩
    simp only [Z1q, opt] at hk
    split at hk
    · rename_i d hd; exact ⟨d, a.eval x, by simp [execOp], h.evo hd, hk⟩
    · exact hk.elim
  case assign x =>
    refine ⟨fun c e => (by cases e), ?_⟩
    simp only [Z1q, opt] at hk
    split at hk
    · rename_i d hd; exact ⟨d, a.eval x, by simp [execOp], h.evo hd, hk⟩
    · exact hk.elim
  case pick c x y =>
    refine ⟨fun c e => (by cases e), ?_⟩
    simp only [Z1q, Zjo, opt] at hk
    split at hk
    · rename_i hc
      have hcv := (h.evo hc).v_inv
      split at hk
      · rename_i d hd; exact ⟨d, a.eval x, by simp [execOp, hcv, asBool], h.evo hd, hk⟩
      · exact hk.elim
    · rename_i hc
      have hcv := (h.evo hc).v_inv
      split at hk
      · rename_i d hd; exact ⟨d, a.eval y, by simp [execOp, hcv, asBool], h.evo hd, hk⟩
      · exact hk.elim
    · exact hk.elim
  case load t x =>
    refine ⟨fun c e => (by cases e), ?_⟩
    simp only [Z1q] at hk
    split at hk
    · rename_i e d he hd
      exact lift (Zgk hT he hr (h.evo hd) hk) rfl
    · exact hk.elim
  case nilCheck x =>
    refine ⟨fun c e => (by cases e), ?_⟩
    simp only [Z1q] at hk
    split at hk
    · rename_i d hd
      split at hk
      · rename_i hp
        have hv := h.evo hd
        refine ⟨d, a.eval x, ?_, hv, hk⟩
        have : ∀ v, VR F μ d v -> (∃ ad, v = .pointer (some ad)) ∨ (∃ f vs, v = .func (.func f) #[] vs) := fun v hv => by
          cases hv with
          | cl _ _ hc => cases hc <;> first | exact .inl ⟨_, rfl⟩ | exact .inr ⟨_, _, rfl⟩ | simp [Zqz] at hp
          | _ => first | exact .inl ⟨_, rfl⟩ | exact .inr ⟨_, _, rfl⟩ | simp [Zqz] at hp
        have this := this _ hv
        rcases this with ⟨ad, e⟩ | ⟨f, vs, e⟩ <;> simp [execOp, e]
      · exact hk.elim
    · exact hk.elim
  case binOp op t x y ty =>
    refine ⟨fun c e => (by cases e), ?_⟩
    simp only [Z1q] at hk
    split at hk
    · rename_i h1 h2
      split at hk
      · rename_i e hlit he
        split at hk
        · rename_i hkc
          have v1 := (h.evo h1).v_inv
          have v2 := (h.evo h2).v_inv
          obtain ⟨d, hd, hkc', -⟩ := Z1e hT he
          rw [hkc] at hkc'
          obtain ⟨ms, rfl⟩ : ∃ e', d = .interface e' := by cases d <;> simp [Zaw] at hkc'; exact ⟨_, rfl⟩
          have heq : (Op.equal t .nilIface .nilIface).run P w = .ok true w := by
            unfold Op.equal Op.maxDepth Op.equalIn
            rw [Sem.run_bind, run_underlying hd w]
            rfl
          obtain ⟨d, v, g1, g2⟩ := Za8 (F := F) (μ := μ) (op := op) (x := .nilIface) (y := .nilIface) (b := true) (Zi7 heq fun op ho => by rcases ho with rfl | rfl <;> rfl) hk
          refine ⟨d, v, ?_, g2⟩
          have hg : (eqGuard op t x y .nilIface .nilIface).run P w = .ok () w := by
            unfold eqGuard
            cases y <;> simp [Zr1] at hlit
            cases op <;> simp
          simp [execOp, v1, v2, hg, g1]
        · exact hk.elim
      · exact hk.elim
    · rename_i d1 d2 hno h1 h2
      obtain ⟨d, v, g1, g2⟩ := Zlu hT (h.evo h1) (h.evo h2) (w := w) hk
      refine ⟨d, v, ?_, g2⟩
      have hg : (eqGuard op t x y (a.eval x) (a.eval y)).run P w = .ok () w := by
        have n1 : (¬ (a.eval x = .nilIface /\ a.eval y = .nilIface) /\ ¬ (∃ as, a.eval x = .agg as)) ∨ (P.eqGuardType P.depth t = false /\ ∃ as bs, a.eval x = .agg as /\ a.eval y = .agg bs) := by
          unfold Zbd at hk
          have v1 := h.evo h1
          have v2 := h.evo h2
          split at hk <;> first
            | exact hk.elim
            | (have e1 := v1.v_inv; rw [e1]; exact .inl ⟨fun h => (by have e9 := h.1; cases e9), fun ⟨_, h⟩ => (by cases h)⟩)
            | (obtain ⟨a1, c1, e1, -⟩ := v1.sl_inv; rw [e1]; exact .inl ⟨fun h => (by have e9 := h.1; cases e9), fun ⟨_, h⟩ => (by cases h)⟩)
            | (obtain ⟨a1, c1, e1, -⟩ := v1.o_inv; rw [e1]; exact .inl ⟨fun h => (by have e9 := h.1; cases e9), fun ⟨_, h⟩ => (by cases h)⟩)
            | (obtain ⟨a1, e1, -⟩ := v1.ifc_inv; rw [e1]; exact .inl ⟨fun h => (by have e9 := h.1; cases e9), fun ⟨_, h⟩ => (by cases h)⟩)
            | (split at hk
               · rename_i e he
                 split at hk
                 · rename_i n hf ha
                   obtain ⟨as, bs, rfl, rfl, -⟩ := hk.out
                   exact .inr ⟨(Zef hT he hf).1, _, _, Z97 v1, Z97 v2⟩
                 · exact hk.elim
               · exact hk.elim)
        rcases n1 with n1 | ⟨n1, as, bs, e1, e2⟩
        · unfold eqGuard
          generalize a.eval x = va at n1 ⊢
          generalize a.eval y = vb at n1 ⊢
          cases op <;> first | rfl | (cases va <;> first | rfl | (exact absurd ⟨_, rfl⟩ n1.2) | (cases vb <;> first | rfl | exact absurd ⟨rfl, rfl⟩ n1.1))
        · rw [e1, e2]; exact run_eqGuard_agg w op t x y as bs n1
      simp [execOp, hg, g1]
    · exact hk.elim
  case lookup t x i ok =>
    refine ⟨fun c e => (by cases e), ?_⟩
    simp only [Z1q] at hk
    split at hk
    · rename_i d1 d2 h1 h2
      exact lift (Zp9 hT hr (h.evo h1) (h.evo h2) hk) rfl
    · exact hk.elim
  case unOp op t x =>
    refine ⟨fun c e => (by cases e), ?_⟩
    simp only [Z1q] at hk
    split at hk
    · rename_i d hd; exact lift (Zp7 (h.evo hd) hk) rfl
    · exact hk.elim
  case convert src dst x =>
    refine ⟨fun c e => (by cases e), ?_⟩
    simp only [Z1q] at hk
    split at hk
    · rename_i d hd; exact lift (Zjl hT (h.evo hd) hk) rfl
    · exact hk.elim
  case makeInterface t x =>
    refine ⟨fun c e => (by cases e), ?_⟩
    simp only [Z1q] at hk
    split at hk
    · rename_i d hd; exact lift (Zm6 hT (h.evo hd) hk) rfl
    · exact hk.elim
  case makeFunc fn first caps =>
    refine ⟨fun c e => (by cases e), ?_⟩
    exact lift (Zm5 h hk) rfl
  case build t parts =>
    refine ⟨fun c e => (by cases e), ?_⟩
    exact lift (Zm9 hT h hk) rfl
  case fieldAddr t x f =>
    refine ⟨fun c e => (by cases e), ?_⟩
    simp only [Z1q] at hk
    split at hk
    · rename_i d hd; exact lift (Zlw hT (h.evo hd) hk) rfl
    · exact hk.elim
  case field t x f =>
    refine ⟨fun c e => (by cases e), ?_⟩
    simp only [Z1q] at hk
    split at hk
    · rename_i d hd; exact lift (Zia hT (h.evo hd) hk) rfl
    · exact hk.elim
  case indexAddr t x i =>
    refine ⟨fun c e => (by cases e), ?_⟩
    simp only [Z1q] at hk
    split at hk
    · rename_i d1 d2 h1 h2; exact lift (Zm3 hT (h.evo h1) (h.evo h2) hk) rfl
    · exact hk.elim
  case index t x i =>
    refine ⟨fun c e => (by cases e), ?_⟩
    simp only [Z1q] at hk
    split at hk
    · rename_i d1 d2 h1 h2; exact lift (Zid hT (h.evo h1) (h.evo h2) hk) rfl
    · exact hk.elim
  case extract x i =>
    refine ⟨fun c e => (by cases e), ?_⟩
    simp only [Z1q] at hk
    split at hk
    · rename_i d hd; exact lift (Zlx (h.evo hd) hk) rfl
    · exact hk.elim
  case slice t x lo hi mx =>
    refine ⟨fun c e => (by cases e), ?_⟩
    cases mx with
    | some m =>
      simp only [Z1q] at hk
      split at hk
      · rename_i d hd; exact lift (Zjv hT h (h.evo hd) hk) rfl
      · exact hk.elim
    | none =>
      simp only [Z1q] at hk
      split at hk
      · rename_i d hd; exact lift (Zma hT h (h.evo hd) hk) rfl
      · exact hk.elim
  case typeAssert x xt t ok =>
    refine ⟨fun c e => (by cases e), ?_⟩
    simp only [Z1q] at hk
    split at hk
    · rename_i d hd; exact lift (Zm7 hT (h.evo hd) hk) rfl
    · exact hk.elim
  case call c =>
    refine ⟨fun c e => (by cases e), ?_⟩
    obtain ⟨callee, args, argTypes⟩ := c
    cases callee with
    | value f => exact hk.elim
    | invoke r m => exact hk.elim
    | builtin b =>
      have bi : ∀ {x : Sem Value}, (∃ d v, x.run P w = .ok v w /\ VR F μ d v /\ K d) -> (∀ cc, builtin b argTypes type cc (args.map a.eval) = (do pure (.value (<- x)))) ->
          ∃ d v, (execOp a.eval ⟨dst, .call { callee := .builtin b, args, argTypes }, type, pos, after, guard⟩).run P w = .ok (.value v) w /\ VR F μ d v /\ K d := fun {x} ⟨d, v, h1, h2⟩ he =>
        ⟨d, v, by simp only [execOp, resolve, Sem.run_bind, Sem.run_pure, Result.andThen_ok, invoke]; rw [he]; simp [h1], h2⟩
      cases b <;> try exact hk.elim
      case len =>
        simp only [Z1q] at hk
        obtain ⟨args⟩ := args
        obtain ⟨argTypes⟩ := argTypes
        simp only at hk
        split at hk
        · rename_i x t
          split at hk
          · rename_i d hd; exact bi (Zm4 hT (h.evo hd) (ty := type) hk) (fun _ => by simp [builtin])
          · exact hk.elim
        · exact hk.elim
      case max => exact bi (by simpa using Zgl (P := P) (w := w) (ty := type) (ts := argTypes) (mx := true) h hk) (fun _ => rfl)
      case min => exact bi (by simpa using Zgl (P := P) (w := w) (ty := type) (ts := argTypes) (mx := false) h hk) (fun _ => rfl)
end
end Go.Abs

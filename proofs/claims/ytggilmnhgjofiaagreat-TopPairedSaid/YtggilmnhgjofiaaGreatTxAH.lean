/- Part TxAH of the proofs about the benches of the accordion maker: see the last text of the claim for what is proved. -/
import Derived.Test.YtggilmnhgjofiaaGreatTxAG
set_option linter.unusedVariables false
set_option linter.unusedSimpArgs false
set_option linter.unnecessarySimpa false
set_option linter.constructorNameAsVariable false

namespace Go.Abs
open Go
def Zjo (K : D -> Prop) (c a b : Option D) : Prop :=
 match c with
 | some (.v (.bool true)) => opt a K
 | some (.v (.bool false)) => opt b K
 | _ => False
def Zly (A : Ar) (T : TT) (t : TypeId) (K : D -> Prop) (d : D) : Prop :=
 match Z1d T t with
 | some e =>
  match e.kc, d with
  | 3, .sl _ es => K (.v (.int .i64 (A.oi (A.len es))))
  | 3, .o _ _ n => K (.v (.int .i64 (A.oi n)))
  | 3, .v (.slice none 0 0) => K (.v (.int .i64 0))
  | 2, .v (.string s) => K (.v (.int .i64 (A.oi (A.slen s))))
  | _, _ => False
 | none => False
def mm (A : Ar) (mx : Bool) (k : IntKind) (x : Int) (K : D -> Prop) : List (Option D) -> Prop
 | [] => K (.v (.int k x))
 | some (.v (.int k' y)) :: r => if k = k' then (match mx with | true => mm A mx k (A.max x y) K r | false => mm A mx k (A.min x y) K r) else False
 | _ :: _ => False
def mmA (A : Ar) (mx : Bool) (K : D -> Prop) : List (Option D) -> Prop
 | some (.v (.int k x)) :: r => mm A mx k x K r
 | _ => False
def Z34 : List (Option D) -> Option (List D)
 | [] => some []
 | some d :: r => (match Z34 r with | some l => some (d :: l) | none => none)
 | none :: _ => none
def Zlz (K : D -> Prop) (fn : Fn) (first : Array Operand) (caps : List (Option D)) : Prop :=
 match fn, first.toList, Z34 caps with
 | .func f, [], some cs => K (.fn f cs)
 | _, _, _ => False
def Zm0 (T : TT) (t : TypeId) (K : D -> Prop) (d : D) : Prop :=
 match Z1d T t with
 | some e => (match e.kc with | 7 => False | _ => K (.ifc t d))
 | none => False
def intOf : Option D -> Option Int
 | some (.v (.int _ n)) => some n
 | _ => none
def Zjp (A : Ar) (T : TT) (t : TypeId) (lo hi : Option (Option D)) (K : D -> Prop) : D -> Prop
 | .sl sz es =>
  match Z1d T t with
  | some e =>
   match e.el with
   | some (none, el) =>
    match Z1d T el with
    | some e2 =>
     match Nat.beq sz e2.size, lo, hi with
     | true, none, none => K (.sl sz es)
     | true, some l, none => (match intOf l with | some l => A.sub2OK es l (A.oi (A.len es)) /\ K (.sl sz (A.sub2 es l (A.oi (A.len es)))) | none => False)
     | true, none, some h => (match intOf h with | some h => A.sub2OK es 0 h /\ K (.sl sz (A.sub2 es 0 h)) | none => False)
     | true, some l, some h => (match intOf l, intOf h with | some l, some h => A.sub2OK es l h /\ K (.sl sz (A.sub2 es l h)) | _, _ => False)
     | false, _, _ => False
    | none => False
   | _ => False
  | none => False
 | .v (.string s) =>
  match Z1d T t with
  | some e =>
   match e.kc, lo, hi with
   | 2, none, none => K (.v (.string s))
   | 2, some l, none => (match intOf l with | some l => A.ssubOK s l (A.oi (A.slen s)) /\ K (.v (.string (A.ssub s l (A.oi (A.slen s))))) | none => False)
   | 2, none, some h => (match intOf h with | some h => A.ssubOK s 0 h /\ K (.v (.string (A.ssub s 0 h))) | none => False)
   | 2, some l, some h => (match intOf l, intOf h with | some l, some h => A.ssubOK s l h /\ K (.v (.string (A.ssub s l h))) | _, _ => False)
   | _, _, _ => False
  | none => False
 | .v (.slice (some ⟨b, 0, none⟩) n cap) =>
  match Z1d T t with
  | some e =>
   match e.el with
   | some (none, el) =>
    match Z1d T el with
    | some e2 =>
     match lo, hi with
     | some l, none => (match intOf l with | some l => A.tlOK l n cap /\ K (.v (A.tl b l e2.size n cap)) | none => False)
     | none, some h => (match intOf h with | some h => A.hdOK h cap /\ K (.v (A.hd b h cap)) | none => False)
     | _, _ => False
    | none => False
   | _ => False
  | none => False
 | _ => False
def Z7l (cs : List D) (off : Nat) (xs : List D) : List D := cs.take off ++ xs ++ cs.drop (off + xs.length)
def Zjq : D -> Bool
 | .agg _ | .arr _ | .tup _ | .any => false
 | _ => true
def Z35 : D -> Option (List D)
 | .agg cs => some cs
 | .arr _ => none
 | .tup _ => none
 | .any => none
 | d => some [d]
def Zet (place : Nat -> Option (Nat × Nat)) : List D -> List (Nat × Option D) -> Option (List D)
 | cs, [] => some cs
 | cs, (i, some d) :: r =>
  match place i, Z35 d with
  | some (off, n), some xs => (match Nat.beq xs.length n, Nat.ble (off + n) cs.length with | true, true => Zet place (Z7l cs off xs) r | _, _ => none)
  | _, _ => none
 | _, (_, none) :: _ => none
def Zib (e : TE) (i : Nat) : Option (Nat × Nat) := match e.fds[i]? with | some (off, n, _) => some (off, n) | none => none
def Zm1 (T : TT) (t : TypeId) (parts : List (Nat × Option D)) (K : D -> Prop) : Prop :=
 match Z1d T t with
 | some e =>
  match e.zero with
  | .agg zs =>
   match e.kc with
   | 8 => (match e.ok with | false => False | true => match Zet (Zib e) zs parts with | some cs => K (.agg cs) | none => False)
   | 9 =>
    match e.el with
    | some (some _, el) => (match Z1d T el with | some e2 => (match Zet (fun i => some (i * e2.size, e2.size)) zs parts with | some cs => K (.agg cs) | none => False) | none => False)
    | _ => False
   | _ => False
  | _ => False
 | none => False
def Zm2 (T : TT) (asserted : TypeId) (ok : Bool) (K : D -> Prop) : D -> Prop
 | .ifc t d =>
  match Z1d T asserted with
  | some e =>
   match e.kc with
   | 7 => False
   | _ =>
    match decide (t = asserted), ok with
    | true, true => K (.tup [d, .v (.bool true)])
    | true, false => K d
    | false, true => K (.tup [e.zero, .v (.bool false)])
    | false, false => False
  | none => False
 | .v .nilIface =>
  match Z1d T asserted with
  | some e =>
   match e.kc, ok with
   | 7, _ => False
   | _, true => K (.tup [e.zero, .v (.bool false)])
   | _, false => False
  | none => False
 | _ => False
def Zr0 : D -> Bool
 | .sl _ _ => true
 | .o _ _ _ => true
 | .z0 => true
 | .v (.slice none 0 0) => true
 | _ => false
def Zeu (T : TT) (t : TypeId) (lo : Option Operand) (hi : Option (Option D)) (mx : Option D) (K : D -> Prop) (d : D) : Prop :=
 match Z1d T t, Zr0 d, lo with
 | some e, true, none =>
  match e.el with
  | some (none, el) =>
   match Z1d T el, hi with
   | some _, some h =>
    match intOf h, intOf mx with
    | some (.ofNat 0), some (.ofNat 0) => K .z0
    | _, _ => False
   | _, _ => False
  | _ => False
 | _, _, _ => False
def Zu7 (kn : Nat) (d : D) (l : List Int) : Prop :=
 match kn, l with
 | 0, [x] => d = .v (.int .i64 x)
 | n + 1, l => d = .agg (l.map (fun x => .v (.int .i64 x))) /\ l.length = n + 1
 | _, _ => False
structure KeyIs (kn : Nat) (d : D) (K : List Int -> Prop) : Prop where
 out : ∃ l, Zu7 kn d l /\ K l
def Zc3 (T : TT) (t : TypeId) : Option (Nat × TE) :=
 match Z1d T t with
 | some e =>
  match e.mp with
  | some (kt, et) =>
   match Z1d T kt, Z1d T et with
   | some ek, some ee => (match ek.fl, ek.agg with | some (n + 1), true => some (n + 1, ee) | some 1, false => some (0, ee) | _, _ => none)
   | _, _ => none
  | none => none
 | none => none
def okA (ok : Bool) (K : D -> Prop) (d : D) (b : Bool) : Prop := match ok with | true => K (.tup [d, .v (.bool b)]) | false => K d
def Zea (A : Ar) (T : TT) (H : List Blk) (t : TypeId) (ok : Bool) (K : D -> Prop) (key : D) : D -> Prop
 | .v (.map none) => (match Zc3 T t with | some (kn, ee) => KeyIs kn key fun _ => okA ok K ee.zero false | none => False)
 | .mv k =>
  match Zc3 T t, Z1m H k with
  | some (kn, ee), some (.ob (.mp kn' ents)) => (match Nat.beq kn kn' with | true => KeyIs kn key fun l => Need (A.mget ents l ee.zero) fun d => okA ok K d (A.mhas ents l) | false => False)
  | some (kn, ee), some (.ob (.mpx kn' ents _ _)) => (match Nat.beq kn kn' with | true => KeyIs kn key fun l => Need (A.mget ents l ee.zero) fun d => okA ok K d (A.mhas ents l) | false => False)
  | _, _ => False
 | _ => False
def Zr1 : Operand -> Bool
 | .const _ => true
 | _ => false
def Z1q (A : Ar) (T : TT) (s : St) (K : D -> Prop) : Op -> Prop
 | .move x => opt (evo s.env x) K
 | .assign x => opt (evo s.env x) K
 | .pick c a b => Zjo K (evo s.env c) (evo s.env a) (evo s.env b)
 | .load t a => (match Z1d T t, evo s.env a with | some e, some d => ldP A s.H e.agg e.size K d | _, _ => False)
 | .nilCheck x => (match evo s.env x with | some d => (match Zqz d with | true => K d | false => False) | none => False)
 | .binOp op t x y _ =>
  match evo s.env x, evo s.env y with
  | some (.v .nilIface), some (.v .nilIface) => (match Zr1 y, Z1d T t with | true, some e => (match e.kc with | 7 => eqK op K true | _ => False) | _, _ => False)
  | some a, some b => Zbd A T op t K a b
  | _, _ => False
 | .lookup t x i ok => (match evo s.env x, evo s.env i with | some a, some b => Zea A T s.H t ok K b a | _, _ => False)
 | .unOp op _ x => (match evo s.env x with | some d => unA A op K d | none => False)
 | .convert src dst x => (match evo s.env x with | some d => Zeq A T src dst K d | none => False)
 | .makeInterface t x => (match evo s.env x with | some d => Zm0 T t K d | none => False)
 | .makeFunc fn first caps => Zlz K fn first (caps.toList.map (evo s.env))
 | .build t parts => Zm1 T t (parts.toList.map fun (i, x) => (i, evo s.env x)) K
 | .fieldAddr t x f => (match evo s.env x with | some d => Zlq A T t f K d | none => False)
 | .field t x f => (match evo s.env x with | some d => Zbe T t f K d | none => False)
 | .indexAddr t x i => (match evo s.env x, evo s.env i with | some a, some b => Zlr A T t (Zr1 i) K a b | _, _ => False)
 | .index t x i => (match evo s.env x, evo s.env i with | some a, some b => Z96 A T t K a b | _, _ => False)
 | .extract x i => (match evo s.env x with | some d => Zp6 i K d | none => False)
 | .slice t x lo hi none => (match evo s.env x with | some d => Zjp A T t (lo.map (evo s.env)) (hi.map (evo s.env)) K d | none => False)
 | .slice t x lo hi (some mx) => (match evo s.env x with | some d => Zeu T t lo (hi.map (evo s.env)) (evo s.env mx) K d | none => False)
 | .typeAssert x _ t ok => (match evo s.env x with | some d => Zm2 T t ok K d | none => False)
 | .call { callee := .builtin .len, args, argTypes } => (match args.toList, argTypes.toList with | [x], [t] => (match evo s.env x with | some d => Zly A T t K d | none => False) | _, _ => False)
 | .call { callee := .builtin .max, args, .. } => mmA A true K (args.toList.map (evo s.env))
 | .call { callee := .builtin .min, args, .. } => mmA A false K (args.toList.map (evo s.env))
 | _ => False
section
variable {P : Program} {T : TT} {F : Fz} {μ : Mu} {w : World} {K : D -> Prop}
theorem Zic {esz : Nat} {lit : Bool} {i : Int} {x : D} {vx : Value} (hx : VR F μ x vx) (h : Zes ar esz lit i K x) :
  ∃ d a, vx = .pointer (some a) /\ VR F μ d (.pointer (some (a.add (i.toNat * esz)))) /\ K d := by
 unfold Zes at h
 split at h
 ·cases hx with
  | cl _ _ hc => cases hc
  | b _ _ b m hμ =>
   split at h
   ·exact ⟨_, _, rfl, by rw [add_lit]; exact .b _ _ b m hμ, h⟩
   ·exact ⟨_, _, rfl, by rw [add_lit]; exact .bs _ _ b m hμ, h⟩
 ·cases hx with
  | cl _ _ hc => cases hc
  | bs _ _ b m hμ => exact ⟨_, _, rfl, by rw [add_lit]; exact .bs _ _ b m hμ, h⟩
 ·exact h.elim
theorem Z61 (hT : TOK P T) {t el : TypeId} {e : TE} (he : Z1d T t = some e) (hel : e.el = some (none, el)) : P.underlying t = some (.slice el) := by
 obtain ⟨d, hd, -, h, -⟩ := Z1e hT he;rw [hel] at h
 cases d <;> simp at h
 rw [hd, h]
theorem Zev (hT : TOK P T) {t el n : Nat} {e : TE} (he : Z1d T t = some e) (hel : e.el = some (some n, el)) : P.underlying t = some (.array n el) := by
 obtain ⟨d, hd, -, h, -⟩ := Z1e hT he;rw [hel] at h
 cases d <;> simp at h
 rw [hd, h.1, h.2]
theorem VR.o_real {k sz n : Nat} {v : Value} (h : VR F μ (.o k sz n) v) (hn : 0 < n) : ∃ b m cap, v = .slice (some ⟨b, 0, none⟩) n cap /\ μ k = some (some (b, m)) /\ n <= cap /\ cap * sz <= m := by
 cases h with
 | cl _ _ h => cases h
 | o _ _ _ b m cap h hc hm => exact ⟨b, m, cap, rfl, h, hc, hm⟩
 | oNil => omega
theorem Zm3 (hT : TOK P T) {t : TypeId} {lit : Bool} {x y : D} {vx vy : Value} (hx : VR F μ x vx) (hy : VR F μ y vy) (h : Zlr ar T t lit K x y) :
  ∃ d v, (Instr.indexAt t vx vy).run P w = .ok v w /\ VR F μ d v /\ K d := by
 unfold Zlr at h
 split at h
 ·rename_i i
  obtain rfl := hy.v_inv
  split at h
  ·rename_i e he
   split at h
   ·rename_i el hel
    split at h
    ·rename_i e2 he2
     have hu := Z61 hT he hel;have hs := Z6i (w := w) hT he2
     split at h
     ·rename_i sz es
      split at h
      ·rename_i hsz
       obtain rfl := Nat.eq_of_beq_eq_true hsz;obtain ⟨hin, hk⟩ := h;have hin : 0 <= i /\ i < es.length := hin
       cases hx with
       | cl _ _ hc =>
        cases hc with
        | slE => simp at hin; omega
        | sl _ _ b o c val hc hz hf hv =>
         refine ⟨_, .pointer (some ⟨b, o + i.toNat * e2.size + 0, none⟩), ?_, .cl _ _ (.ip _ es b o i.toNat 0 val hz hf hv), hk⟩;unfold Instr.indexAt;simp [asIntOf, run_underlying hu w, hin.1, hin.2, hs, add_lit]
      ·exact h.elim
     ·rename_i k sz n
      split at h
      ·rename_i hsz
       obtain rfl := Nat.eq_of_beq_eq_true hsz;obtain ⟨hin, hk⟩ := h;have hin : 0 <= i /\ i < n := hin;obtain ⟨b, m, cap, rfl, hμ, -, -⟩ := hx.o_real (by omega);refine ⟨_, .pointer (some ⟨b, i.toNat * e2.size + 0, none⟩), ?_, .p k _ i.toNat 0 b m hμ, hk⟩;unfold Instr.indexAt;simp [asIntOf, run_underlying hu w, hin.1, hin.2, hs, add_lit]
      ·exact h.elim
     ·exact h.elim
    ·exact h.elim
   ·rename_i n el hel
    split at h
    ·rename_i e2 he2
     have hu := Zev hT he hel;have hs := Z6i (w := w) hT he2;obtain ⟨hin, hk⟩ := h;have hin : 0 <= i /\ i < n := hin;obtain ⟨d, a, rfl, hd, hk⟩ := Zic hx hk;refine ⟨d, _, ?_, hd, hk⟩;unfold Instr.indexAt;simp [asIntOf, run_underlying hu w, hin.1, hin.2, hs, Instr.sureAddr]
    ·exact h.elim
   ·exact h.elim
  ·exact h.elim
 ·exact h.elim
theorem Zid (hT : TOK P T) {t : TypeId} {x y : D} {vx vy : Value} (hx : VR F μ x vx) (hy : VR F μ y vy) (h : Z96 ar T t K x y) :
  ∃ d v, (Instr.index t vx vy).run P w = .ok v w /\ VR F μ d v /\ K d := by
 have arrc : ∀ {cs : List D} {vs : Array Value} {i : Int}, cs.length = vs.size -> (∀ (i : Nat) (c : D) (v : Value), cs[i]? = some c -> vs[i]? = some v -> VR F μ c v) ->
   (match Z1d T t with
    | some e => (match e.el with | some (some n, el) => (match Z1d T el with | some e2 => (match e2.agg, e2.size with | false, 1 => ar.inb i n /\ Need (ar.get cs (ar.tn i)) K | _, _ => False) | none => False) | _ => False)
    | none => False) -> ∀ k, ∃ d v, (Instr.index t (.agg vs) (.int k i)).run P w = .ok v w /\ VR F μ d v /\ K d := fun {cs vs i} hl hv h k => by
  split at h
  ·rename_i e he
   split at h
   ·rename_i n el hel
    split at h
    ·rename_i e2 he2
     split at h
     ·rename_i hag hsz
      obtain ⟨hin, hk⟩ := h;have hin : 0 <= i /\ i < n := hin;obtain ⟨d, hd, hk⟩ := hk.out;have hd : cs[i.toNat]? = some d := hd;have hlt : i.toNat < vs.size := by have := (List.getElem?_eq_some_iff.1 hd).1; omega
      refine ⟨d, vs[i.toNat], ?_, hv _ d _ hd (Array.getElem?_eq_getElem hlt), hk⟩;have hs := Z6i (w := w) hT he2;have ha := Zc2 (w := w) hT he2;rw [hsz] at hs;rw [hag] at ha;unfold Instr.index;simp [asIntOf, run_underlying (Zev hT he hel) w, hin.1, hin.2, hs, part, ha, hlt]
     ·exact h.elim
    ·exact h.elim
   ·exact h.elim
  ·exact h.elim
 unfold Z96 at h
 split at h
 ·rename_i s k i
  obtain rfl := hx.v_inv;obtain rfl := hy.v_inv
  split at h
  ·rename_i e he
   split at h
   ·rename_i hk
    obtain ⟨hin, hk⟩ := h;have hin : 0 <= i /\ i < s.size := hin;obtain ⟨d, hd, hkc, -⟩ := Z1e hT he;rw [‹e.kc = 2›] at hkc;obtain rfl : d = .string := by cases d <;> simp [Zaw] at hkc; rfl
    have hlt : i.toNat < s.data.size := by have : s.size = s.data.size := rfl; omega
    refine ⟨_, .int .u8 (s.data[i.toNat]).toNat, ?_, ?_, hk⟩
    ·unfold Instr.index;have hg : s[i.toNat]? = some (s.data[i.toNat]) := by
      show (if h : i.toNat < s.size then some _ else none) = _;rw [dif_pos (show i.toNat < s.size from hlt)]; rfl
     simp [asIntOf, run_underlying hd w, hin.1, hg]
    ·have : ar.sget s (ar.tn i) = ((s.data[i.toNat]).toNat : Int) := by
      show ((Zqy s i.toNat : Nat) : Int) = _;unfold Zqy; rw [Array.getElem?_eq_getElem hlt]; rfl
     rw [this]; exact Z3d rfl
   ·exact h.elim
  ·exact h.elim
 ·obtain rfl := hy.v_inv;obtain ⟨vs, rfl, hl, hv, -⟩ := hx.agg_inv;exact arrc hl hv h _
 ·obtain rfl := hy.v_inv;obtain ⟨vs, rfl, hl, hv, -⟩ := hx.arr_inv;exact arrc hl hv h _
 ·exact h.elim
theorem Zm4 (hT : TOK P T) {t ty : TypeId} {x : D} {vx : Value} (hx : VR F μ x vx) (h : Zly ar T t K x) : ∃ d v, (Builtin.len_ #[t] ty #[vx]).run P w = .ok v w /\ VR F μ d v /\ K d := by
 unfold Zly at h
 split at h
 ·rename_i e he
  obtain ⟨d, hd, hkc, -⟩ := Z1e hT he;have sl : e.kc = 3 -> ∃ e', d = .slice e' := fun hk => by rw [hk] at hkc; cases d <;> simp [Zaw] at hkc; exact ⟨_, rfl⟩
  split at h
  ·rename_i hk
   obtain ⟨e', rfl⟩ := sl hk;obtain ⟨a, c, rfl, -⟩ := hx.sl_inv;exact ⟨_, _, by simp [Builtin.len_, run_underlying hd w, goInt]; rfl, Z3d rfl, h⟩
  ·rename_i hk
   obtain ⟨e', rfl⟩ := sl hk;obtain ⟨a, c, rfl, -⟩ := hx.o_inv;exact ⟨_, _, by simp [Builtin.len_, run_underlying hd w, goInt]; rfl, Z3d rfl, h⟩
  ·rename_i hk
   obtain ⟨e', rfl⟩ := sl hk;obtain rfl := hx.v_inv;exact ⟨_, .int .i64 0, by simp [Builtin.len_, run_underlying hd w, goInt], Z3d rfl, h⟩
  ·rename_i s hk
   obtain rfl : d = .string := by rw [hk] at hkc; cases d <;> simp [Zaw] at hkc <;> rfl
   obtain rfl := hx.v_inv;exact ⟨_, .int .i64 s.size, by simp [Builtin.len_, run_underlying hd w, goInt], Z3d rfl, h⟩
  ·exact h.elim
 ·exact h.elim
end
end Go.Abs

namespace Go.Abs
open Go
section
variable {P : Program} {T : TT} {F : Fz} {μ : Mu} {w : World} {K : D -> Prop}
def VRL (F : Fz) (μ : Mu) : List D -> List Value -> Prop
 | [], [] => True
 | d :: ds, v :: vs => VR F μ d v /\ VRL F μ ds vs
 | _, _ => False
theorem VRL.len : ∀ {ds : List D} {vs : List Value}, VRL F μ ds vs -> ds.length = vs.length
 | [], [], _ => rfl
 | _ :: _, _ :: _, h => by simp [VRL.len h.2]
 | [], _ :: _, h => h.elim
 | _ :: _, [], h => h.elim
theorem VRL.get : ∀ {ds : List D} {vs : List Value}, VRL F μ ds vs -> ∀ (i : Nat) (d : D) (v : Value), ds[i]? = some d -> vs[i]? = some v -> VR F μ d v
 | [], [], _, i, d, v, h, _ => by simp at h
 | _ :: _, _ :: _, h, 0, d, v, h1, h2 => by simp at h1 h2; subst h1 h2; exact h.1
 | _ :: _, _ :: _, h, i + 1, d, v, h1, h2 => VRL.get h.2 i d v (by simpa using h1) (by simpa using h2)
 | [], _ :: _, h, _, _, _, _, _ => h.elim
 | _ :: _, [], h, _, _, _, _, _ => h.elim
theorem Zjr {s : St} {a : Act} (h : ER F μ s a) : ∀ {xs : List Operand} {ds : List D}, Z34 (xs.map (evo s.env)) = some ds -> VRL F μ ds (xs.map a.eval)
 | [], ds, hd => by simp [Z34] at hd; subst hd; trivial
 | x :: xs, ds, hd => by
  simp only [List.map_cons] at hd ⊢
  cases hx : evo s.env x with
  | none => simp [hx, Z34] at hd
  | some d =>
   simp only [hx, Z34] at hd
   split at hd
   ·rename_i l hl; cases hd; exact ⟨h.evo hx, Zjr h hl⟩
   ·cases hd
theorem Zew {ty : TypeId} {mx : Bool} {s : St} {a : Act} (h : ER F μ s a) : ∀ (xs : List Operand) (k : IntKind) (x : Int), mm ar mx k x K (xs.map (evo s.env)) ->
  ∃ d v, ((xs.map a.eval).foldlM (if mx then Builtin.max2 else Builtin.min2) (.int k x)).run P w = .ok v w /\ VR F μ d v /\ K d
 | [], k, x, hk => ⟨_, _, by simp, Z3d rfl, hk⟩
 | o :: xs, k, x, hk => by
  simp only [List.map_cons] at hk ⊢
  cases ho : evo s.env o with
  | none => simp [ho, mm] at hk
  | some d =>
   rw [ho] at hk;unfold mm at hk
   split at hk
   ·rename_i h0; cases h0
   ·rename_i k' y r h0
    cases h0
    have hv := (h.evo ho).v_inv
    split at hk
    ·rename_i he
     subst he
     split at hk
     ·obtain ⟨d, v, h1, h2⟩ := Zew (ty := ty) h xs k (if y > x then y else x) hk;refine ⟨d, v, ?_, h2⟩;rw [hv];simpa [Builtin.max2] using h1
     ·obtain ⟨d, v, h1, h2⟩ := Zew (ty := ty) h xs k (if y < x then y else x) hk;refine ⟨d, v, ?_, h2⟩;rw [hv];simpa [Builtin.min2] using h1
    ·exact hk.elim
   ·exact hk.elim
theorem Zgl {ty : TypeId} {ts : Array TypeId} {mx : Bool} {s : St} {a : Act} (h : ER F μ s a) {xs : Array Operand} (hk : mmA ar mx K (xs.toList.map (evo s.env))) :
  ∃ d v, (if mx then Builtin.max_ ts ty (xs.map a.eval) else Builtin.min_ ts ty (xs.map a.eval)).run P w = .ok v w /\ VR F μ d v /\ K d := by
 obtain ⟨xs⟩ := xs
 cases xs with
 | nil => exact hk.elim
 | cons o xs =>
  simp only [List.map_cons] at hk
  cases ho : evo s.env o with
  | none => simp [ho, mmA] at hk
  | some d =>
   rw [ho] at hk;unfold mmA at hk
   split at hk
   ·rename_i k x r h0
    cases h0
    have hv := (h.evo ho).v_inv;obtain ⟨d, v, h1, h2⟩ := Zew (P := P) (w := w) (ty := ty) h xs k x hk;refine ⟨d, v, ?_, h2⟩
    cases mx
    ·simpa [Builtin.min_, hv] using h1
    ·simpa [Builtin.max_, hv] using h1
   ·exact hk.elim
theorem Zm5 {s : St} {a : Act} (h : ER F μ s a) {fn : Fn} {first caps : Array Operand} (hk : Zlz K fn first (caps.toList.map (evo s.env))) :
  ∃ d v, (Instr.makeFunc fn (first.map a.eval) (caps.map a.eval)).run P w = .ok v w /\ VR F μ d v /\ K d := by
 unfold Zlz at hk
 split at hk
 ·rename_i f cs hf hc
  have hl := Zjr h hc;obtain ⟨first⟩ := first;obtain rfl : first = [] := hf;refine ⟨_, .func (.func f) #[] (caps.map a.eval), by simp [Instr.makeFunc], .fn f cs _ (by rw [hl.len]; simp) (fun i c v h1 h2 => hl.get i c v h1 ?_), hk⟩;simpa [<- Array.getElem?_toList] using h2
 ·exact hk.elim
theorem Zm6 (hT : TOK P T) {t : TypeId} {x : D} {vx : Value} (hx : VR F μ x vx) (h : Zm0 T t K x) : ∃ d v, (Instr.makeInterface t vx).run P w = .ok v w /\ VR F μ d v /\ K d := by
 unfold Zm0 at h
 split at h
 ·rename_i e he
  obtain ⟨d, hd, hkc, -⟩ := Z1e hT he
  split at h
  ·exact h.elim
  ·rename_i hk
   refine ⟨_, .iface t vx, ?_, .ifc t x vx hx, h⟩;unfold Instr.makeInterface;rw [Sem.run_bind, run_underlying hd w]
   cases d <;> first | rfl | (simp [Zaw] at hkc; exact absurd hkc.symm hk)
 ·exact h.elim
theorem Zm7 (hT : TOK P T) {xt t : TypeId} {ok : Bool} {x : D} {vx : Value} (hx : VR F μ x vx) (h : Zm2 T t ok K x) : ∃ d v, (Instr.typeAssert vx xt t ok).run P w = .ok v w /\ VR F μ d v /\ K d := by
 have tup2 : ∀ {d : D} {v : Value} {b : Bool}, VR F μ d v -> VR F μ (.tup [d, .v (.bool b)]) (.tuple #[v, .bool b]) := fun {d v b} hd =>
  .tup _ _ rfl fun i c v' h1 h2 => by
   match i, h1, h2 with
   | 0, h1, h2 => simp at h1 h2; subst h1 h2; exact hd
   | 1, h1, h2 => simp at h1 h2; subst h1 h2; exact Z3d rfl
   | n + 2, h1, h2 => simp at h1
 have zero : ∀ {e : TE}, Z1d T t = some e -> ∃ z, (zeroValue t).run P w = .ok z w /\ VR F μ e.zero z := fun {e} he => by
  obtain ⟨i, d, z, h1, h2, h3, h4, h5, h6, h7, -⟩ := hT.at he;exact ⟨z, by simp [zeroValue, typeInfo, h1, h3], by rw [h7]; exact .cl _ _ (CR.ofV z)⟩
 unfold Zm2 at h
 split at h
 ·rename_i t' d
  obtain ⟨v, rfl, hd⟩ := hx.ifc_inv
  split at h
  ·rename_i e he
   obtain ⟨de, hde, hkc, -⟩ := Z1e hT he
   split at h
   ·exact h.elim
   ·rename_i hk
    have hni : ∀ ms, de ≠ .interface ms := fun ms e => by subst e; simp [Zaw] at hkc; exact hk hkc.symm
    split at h
    ·rename_i hd1
     have ht : t' = t := of_decide_eq_true hd1;refine ⟨_, .tuple #[v, .bool true], ?_, tup2 hd, h⟩;unfold Instr.typeAssert;rw [Sem.run_bind, run_underlying hde w]
     cases de <;> first | (exact absurd rfl (hni _)) | simp [ht]
    ·rename_i hd1
     have ht : t' = t := of_decide_eq_true hd1;refine ⟨_, v, ?_, hd, h⟩;unfold Instr.typeAssert;rw [Sem.run_bind, run_underlying hde w]
     cases de <;> first | (exact absurd rfl (hni _)) | simp [ht]
    ·rename_i hd1
     have ht : ¬ t' = t := of_decide_eq_false hd1;obtain ⟨z, hz, hzr⟩ := zero he;refine ⟨_, .tuple #[z, .bool false], ?_, tup2 hzr, h⟩;unfold Instr.typeAssert;rw [Sem.run_bind, run_underlying hde w]
     cases de <;> first | (exact absurd rfl (hni _)) | simp [ht, hz]
    ·exact h.elim
  ·exact h.elim
 ·obtain rfl := hx.v_inv
  split at h
  ·rename_i e he
   obtain ⟨de, hde, hkc, -⟩ := Z1e hT he
   split at h
   ·exact h.elim
   ·rename_i hk
    have hni : ∀ ms, de ≠ .interface ms := fun ms e => by subst e; simp [Zaw] at hkc; exact hk hkc.symm
    obtain ⟨z, hz, hzr⟩ := zero he;refine ⟨_, .tuple #[z, .bool false], ?_, tup2 hzr, h⟩;unfold Instr.typeAssert;rw [Sem.run_bind, run_underlying hde w]
    cases de <;> first | (exact absurd rfl (hni _)) | simp [hz]
   ·exact h.elim
  ·exact h.elim
 ·exact h.elim
theorem Zex {cs xs : List D} {off : Nat} (h : off + xs.length <= cs.length) (i : Nat) : (Z7l cs off xs)[i]? = if off <= i /\ i < off + xs.length then xs[i - off]? else cs[i]? := by
 unfold Z7l;have hl : (cs.take off).length = off := by rw [List.length_take]; omega
 by_cases h1 : i < off
 ·rw [List.append_assoc, List.getElem?_append_left (by omega), List.getElem?_take, if_pos h1, if_neg (by omega)]
 ·rw [List.append_assoc, List.getElem?_append_right (by omega), hl]
  by_cases h2 : i < off + xs.length
  ·rw [List.getElem?_append_left (by omega), if_pos ⟨by omega, h2⟩]
  ·rw [List.getElem?_append_right (by omega), List.getElem?_drop, if_neg (by omega)]
   congr 1; omega
theorem Zb3 {cs xs : List D} {off : Nat} (h : off + xs.length <= cs.length) : (Z7l cs off xs).length = cs.length := by
 unfold Z7l; simp; omega
structure CellsA (F : Fz) (μ : Mu) (cs : List D) (vs : Array Value) : Prop where
 len : cs.length = vs.size
 rel : ∀ (i : Nat) (c : D) (v : Value), cs[i]? = some c -> vs[i]? = some v -> VR F μ c v
 one : ∀ (i : Nat) (v : Value), vs[i]? = some v -> v.oneCell' = true
theorem Z98 (xs : List (Value × Nat)) (off : Nat) : ∀ vs : Array Value, (xs.foldl (fun cs (c, j) => cs.setIfInBounds (off + j) c) vs).size = vs.size := by
 induction xs with
 | nil => intro vs; rfl
 | cons x xs ih => intro vs; simp only [List.foldl_cons]; rw [ih]; simp
theorem Zb4 (off : Nat) : ∀ (xs : List Value) (k : Nat) (vs : Array Value), off + k + xs.length <= vs.size -> ∀ i,
  ((xs.zipIdx k).foldl (fun cs (c, j) => cs.setIfInBounds (off + j) c) vs)[i]? = if off + k <= i /\ i < off + k + xs.length then xs[i - (off + k)]? else vs[i]? := by
 intro xs
 induction xs with
 | nil => intro k vs _ i; simp; intro h1 h2; omega
 | cons x xs ih =>
  intro k vs hle i;simp only [List.zipIdx_cons, List.foldl_cons, List.length_cons] at hle ⊢;rw [ih (k + 1) _ (by simp; omega) i]
  by_cases h1 : off + (k + 1) <= i /\ i < off + (k + 1) + xs.length
  ·rw [if_pos h1, if_pos ⟨by omega, by omega⟩];have : i - (off + k) = (i - (off + (k + 1))) + 1 := by omega
   rw [this, List.getElem?_cons_succ]
  ·rw [if_neg h1, Array.getElem?_setIfInBounds]
   by_cases h2 : off + k = i
   ·rw [if_pos h2, if_pos (by omega), if_pos ⟨by omega, by omega⟩];have : i - (off + k) = 0 := by omega
    rw [this]; rfl
   ·rw [if_neg h2, if_neg (by omega)]
theorem Z4g {d : D} {v : Value} {xs : List D} (hv : VR F μ d v) (h : Z35 d = some xs) (ho : ∀ x, d = .v x -> x.oneCell' = true) : CellsA F μ xs v.cells := by
 have one : ∀ {v : Value}, v.oneCell' = true -> VR F μ d v -> xs = [d] -> CellsA F μ xs v.cells := fun {v} h1 h2 h3 => by
  subst h3;have hc : v.cells = #[v] := by cases v <;> simp [Value.oneCell'] at h1 <;> rfl
  rw [hc];refine ⟨rfl, fun i c v' e1 e2 => ?_, fun i v' e2 => ?_⟩
  ·match i, e1, e2 with
   | 0, e1, e2 => simp at e1 e2; subst e1 e2; exact h2
   | n + 1, e1, e2 => simp at e1
  ·match i, e2 with
   | 0, e2 => simp at e2; subst e2; exact h1
   | n + 1, e2 => simp at e2
 cases d
 case arr => cases h
 case tup => cases h
 case any => cases h
 case agg cs =>
  obtain rfl := Option.some.inj h;obtain ⟨vs, rfl, hl, hr, ho⟩ := hv.agg_inv;exact ⟨hl, hr, ho⟩
 case v x =>
  obtain rfl := hv.v_inv;exact one (ho _ rfl) hv (Option.some.inj h).symm
 all_goals
  refine one ?_ hv (Option.some.inj h).symm
  first
   | (cases hv with
    | cl _ _ hc => cases hc <;> rfl
    | _ => rfl)
   | (cases hv <;> first | rfl | (rename_i hc; cases hc <;> rfl))
theorem VR.v_one {x v : Value} (h : VR F μ (.v x) v) : x.oneCell' = true := by cases h with | cl _ _ h => cases h; assumption
theorem Z99 {place place' : Nat -> Option (Nat × Nat)} (hp : ∀ i p, place i = some p -> place' i = some p) {s : St} {a : Act} (h : ER F μ s a) : ∀ (parts : List (Nat × Operand)) (cs : List D) (vs : Array Value) (cs' : List D),
  CellsA F μ cs vs -> Zet place cs (parts.map fun (i, x) => (i, evo s.env x)) = some cs' -> ∃ vs', Instr.fill place' vs (parts.map fun (i, x) => (i, a.eval x)) = some vs' /\ CellsA F μ cs' vs'
 | [], cs, vs, cs', hc, he => by simp [Zet] at he; subst he; exact ⟨vs, rfl, hc⟩
 | (i, x) :: parts, cs, vs, cs', hc, he => by
  simp only [List.map_cons] at he ⊢
  cases hx : evo s.env x with
  | none => simp [hx, Zet] at he
  | some d =>
   rw [hx] at he;simp only [Zet] at he
   split at he
   ·rename_i off n xs hpl hlc
    split at he
    ·rename_i hb1 hb2
     have hb1 := Nat.eq_of_beq_eq_true hb1;have hb2 := Nat.le_of_ble_eq_true hb2;have hv := h.evo hx;have hcx := Z4g hv hlc (fun y e => by subst e; exact hv.v_one);have hsz : (a.eval x).cells.size = n := by rw [<- hcx.len, hb1]
     have hcs' : CellsA F μ (Z7l cs off xs) ((a.eval x).cells.zipIdx.foldl (fun cs (c, j) => cs.setIfInBounds (off + j) c) vs) := by
      have e1 : (a.eval x).cells.zipIdx.foldl (fun cs (c, j) => cs.setIfInBounds (off + j) c) vs = ((a.eval x).cells.toList.zipIdx 0).foldl (fun cs (c, j) => cs.setIfInBounds (off + j) c) vs := by
       rw [<- Array.foldl_toList, Array.toList_zipIdx]
      have hle : off + 0 + (a.eval x).cells.toList.length <= vs.size := by
       simp only [Array.length_toList, hsz]; have := hc.len; omega
      have hg := fun i => Zb4 off (a.eval x).cells.toList 0 vs hle i;rw [e1];refine ⟨by rw [Zb3 (by omega), Z98]; exact hc.len, fun i c v g1 g2 => ?_, fun i v g2 => ?_⟩
      ·rw [Zex (by omega)] at g1;rw [hg] at g2;simp only [Nat.add_zero, Array.length_toList, hsz] at g2;rw [hb1] at g1
       split at g1
       ·rename_i hh; rw [if_pos hh] at g2
        exact hcx.rel _ _ _ g1 (by simpa using g2)
       ·rename_i hh; rw [if_neg hh] at g2
        exact hc.rel _ _ _ g1 g2
      ·rw [hg] at g2
       split at g2
       ·exact hcx.one (i - (off + 0)) v (by simpa using g2)
       ·exact hc.one _ _ g2
     obtain ⟨vs', g1, g2⟩ := Z99 hp h parts _ _ cs' hcs' he;refine ⟨vs', ?_, g2⟩;unfold Instr.fill;rw [hp i _ hpl];simp only [hsz, ne_eq, not_true_eq_false, decide_false, Bool.false_or];rw [if_neg]
     ·exact g1
     ·have := hc.len; simp; omega
    ·cases he
   ·cases he
end
end Go.Abs

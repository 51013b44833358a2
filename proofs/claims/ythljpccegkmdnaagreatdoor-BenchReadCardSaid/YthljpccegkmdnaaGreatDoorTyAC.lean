/- Part TyAC of the proofs about the benches of the accordion maker: see the last text of the claim for what is proved. -/
import Derived.Laws.CopyRow
import Derived.Laws.Rows
import Derived.Test.YthljpccegkmdnaaGreatDoorTyAB
set_option linter.unusedVariables false
set_option linter.unusedSimpArgs false
set_option linter.unnecessarySimpa false
set_option linter.constructorNameAsVariable false

namespace Go.Abs
open Go
structure Ar where
 add : Int -> Int -> Int
 sub : Int -> Int -> Int
 mul : Int -> Int -> Int
 neg : Int -> Int
 quo : Int -> Int -> Int
 rem : Int -> Int -> Int
 wrap : IntKind -> Int -> Int
 bits : BinOp -> IntKind -> Int -> Int -> Int
 shift : BinOp -> IntKind -> Int -> Int -> Int
 cmp : BinOp -> Int -> Int -> Bool
 min : Int -> Int -> Int
 max : Int -> Int -> Int
 fits : IntKind -> Int -> Prop
 nz : Int -> Prop
 nneg : Int -> Prop
 beq : Bool -> Bool -> Bool
 band : Bool -> Bool -> Bool
 bnot : Bool -> Bool
 seq : ByteArray -> ByteArray -> Bool
 inb : Int -> Nat -> Prop
 tn : Int -> Nat
 oi : Nat -> Int
 addN : Nat -> Nat -> Nat
 mulN : Nat -> Nat -> Nat
 get : List D -> Nat -> Option D
 len : List D -> Nat
 set : List D -> Nat -> D -> List D
 app : List D -> List D -> List D
 sub2 : List D -> Int -> Int -> List D
 rep : Nat -> D -> List D
 lenIs : List D -> Nat -> Prop
 ltN : Nat -> List D -> Prop
 leN : Nat -> Nat -> Prop
 eqN : Nat -> Nat -> Prop
 sub2OK : List D -> Int -> Int -> Prop
 room : Nat -> Nat -> Prop
 sget : ByteArray -> Nat -> Int
 slen : ByteArray -> Nat
 ssub : ByteArray -> Int -> Int -> ByteArray
 ssubOK : ByteArray -> Int -> Int -> Prop
 scat : ByteArray -> ByteArray -> ByteArray
 scatOK : ByteArray -> ByteArray -> Prop
 leq : List Int -> List Int -> Bool
 mget : List (List Int × D) -> List Int -> D -> Option D
 mhas : List (List Int × D) -> List Int -> Bool
 mput : List (List Int × D) -> List Int -> D -> List (List Int × D)
 tl : Nat -> Int -> Nat -> Nat -> Nat -> Value
 tlOK : Int -> Nat -> Nat -> Prop
 hd : Nat -> Int -> Nat -> Value
 hdOK : Int -> Nat -> Prop
def Zc0 (op : BinOp) (k : IntKind) (x y : Int) : Int :=
 let a := BitVec.ofInt k.bits x
 let b := BitVec.ofInt k.bits y
 match op with
 | .and => k.wrap (a &&& b).toNat
 | .or => k.wrap (a ||| b).toNat
 | .xor => k.wrap (a ^^^ b).toNat
 | _ => k.wrap (a &&& ~~~b).toNat
def Zlp (op : BinOp) (k : IntKind) (x y : Int) : Int :=
 match op with
 | .shl => k.wrap (x * 2 ^ (Nat.min y.toNat k.bits))
 | _ => x.fdiv (2 ^ (Nat.min y.toNat k.bits))
def Z25 (op : BinOp) (x y : Int) : Bool :=
 match op with
 | .eql => x == y
 | .neq => x != y
 | .lss => x < y
 | .leq => x <= y
 | .gtr => x > y
 | _ => x ≥ y
def Zqy (s : ByteArray) (i : Nat) : Nat := ((s.data[i]?).map UInt8.toNat).getD 0
def ar : Ar where
 add x y := x + y
 sub x y := x - y
 mul x y := x * y
 neg x := -x
 quo := Int.tdiv
 rem := Int.tmod
 wrap := IntKind.wrap
 bits := Zc0
 shift := Zlp
 cmp := Z25
 min x y := if y < x then y else x
 max x y := if y > x then y else x
 fits k z := k.wrap z = z
 nz y := y ≠ 0
 nneg y := 0 <= y
 beq x y := x == y
 band x y := x && y
 bnot x := !x
 seq x y := x.toList == y.toList
 inb i n := 0 <= i /\ i < n
 tn := Int.toNat
 oi n := n
 addN x y := x + y
 mulN x y := x * y
 get l i := l[i]?
 len l := l.length
 set l i d := l.set i d
 app l r := l ++ r
 sub2 l lo hi := (l.take hi.toNat).drop lo.toNat
 rep n d := List.replicate n d
 lenIs l n := l.length = n
 ltN i l := i < l.length
 leN i n := i <= n
 eqN i n := i = n
 sub2OK l lo hi := 0 <= lo /\ lo <= hi /\ hi <= l.length
 room n b := n * b <= 140737488355328 /\ n <= 4611686018427387904
 sget s i := (Zqy s i : Nat)
 slen s := s.size
 ssub s lo hi := s.extract lo.toNat hi.toNat
 ssubOK s lo hi := 0 <= lo /\ lo <= hi /\ hi <= s.size
 scat x y := x ++ y
 scatOK x y := x.size + y.size <= 9223372036854775807
 leq x y := decide (x = y)
 mget l k z := some (((l.find? (·.1 == k)).map (·.2)).getD z)
 mhas l k := (l.find? (·.1 == k)).isSome
 mput l k d := match l.findIdx? (·.1 == k) with | some i => l.set i (k, d) | none => l ++ [(k, d)]
 tl b l sz n cap := .slice (if cap = l.toNat then some ⟨b, 0, none⟩ else some ⟨b, l.toNat * sz, none⟩) (n - l.toNat) (cap - l.toNat)
 tlOK l n cap := 0 <= l /\ l <= n /\ n <= cap
 hd b h cap := .slice (some ⟨b, 0, none⟩) h.toNat cap
 hdOK h cap := 0 <= h /\ h <= cap
structure Need {α : Type} (x : Option α) (K : α -> Prop) : Prop where
 out : ∃ d, x = some d /\ K d
structure TE where
 size : Nat
 bytes : Nat
 agg : Bool
 zero : D
 el : Option (Option Nat × Nat)
 fds : List (Nat × Nat × Nat)
 ik : Option IntKind
 kc : Nat
 ok : Bool
 mp : Option (Nat × Nat)
 fl : Option Nat
abbrev TT := Nat -> Option TE
def Z1d (T : TT) (n : Nat) : Option TE := T n
def lkp : List (Nat × TE) -> Nat -> Option TE
 | [], _ => none
 | (t, e) :: r, n => (match Nat.beq t n with | true => some e | false => lkp r n)
def Z8d : TypeDesc -> Bool
 | .struct _ | .array _ _ => true
 | _ => false
def Zaw : TypeDesc -> Nat
 | .bool => 1
 | .string => 2
 | .slice _ => 3
 | .map _ _ => 4
 | .pointer _ => 5
 | .func _ _ _ => 6
 | .interface _ => 7
 | .struct _ => 8
 | .array _ _ => 9
 | .int _ => 10
 | _ => 0
def Z3c (P : Program) (t : TypeId) : Option TE :=
 match P.info? t, P.underlying t with
 | some i, some d =>
  match i.zero with
  | some z => some { size := i.size, bytes := i.bytes, agg := Z8d d, zero := ofV z, el := (match d with | .slice e => some (none, e) | .array n e => some (some n, e) | _ => none), fds := (match d with | .struct fs => fs.toList.map (fun f => (f.offset, P.cellsOf f.type, ((P.underlying f.type).map fun d => if Z8d d then 1 else 0).getD 2)) | _ => []), ik := (match d with | .int k => some k | _ => none), kc := Zaw d, ok := (match d with | .struct fs => (fs.toList.mapM fun f => (P.info? f.type).map fun i => (f.offset, i.size)).isSome | _ => true), mp := (match d with | .map k e => some (k, e) | _ => none), fl := if P.eqGuardType P.depth t then none else Z3e P 6 t }
  | none => none
 | _, _ => none
structure TOK (P : Program) (T : TT) : Prop where
 ok : ∀ t e, Z1d T t = some e -> Z3c P t = some e
 zs : ∀ t e, Z1d T t = some e -> ∀ i z, P.info? t = some i -> i.zero = some z -> z.cells.size = i.size /\ ∀ v ∈ z.cells, v.oneCell' = true
 mixed : P.follows .mixedOrders = true
theorem TOK.at {P : Program} {T : TT} (h : TOK P T) {t : TypeId} {e : TE} (he : Z1d T t = some e) :
  ∃ i d z, P.info? t = some i /\ P.underlying t = some d /\ i.zero = some z /\ e.size = i.size /\ e.bytes = i.bytes /\ e.agg = Z8d d /\ e.zero = ofV z /\ z.cells.size = i.size /\ (∀ v ∈ z.cells, v.oneCell' = true) /\
   e.el = (match d with | .slice e => some (none, e) | .array n e => some (some n, e) | _ => none) /\
   e.fds = (match d with | .struct fs => fs.toList.map (fun f => (f.offset, P.cellsOf f.type, ((P.underlying f.type).map fun d => if Z8d d then 1 else 0).getD 2)) | _ => []) /\
   e.ik = (match d with | .int k => some k | _ => none) /\ e.kc = Zaw d /\ e.ok = (match d with | .struct fs => (fs.toList.mapM fun f => (P.info? f.type).map fun i => (f.offset, i.size)).isSome | _ => true) /\
   e.mp = (match d with | .map k e => some (k, e) | _ => none) /\ e.fl = (if P.eqGuardType P.depth t then none else Z3e P 6 t) := by
 have h1 := h.ok t e he;unfold Z3c at h1
 split at h1
 ·rename_i i d hi hd
  split at h1
  ·rename_i z hz
   cases h1
   obtain ⟨z1, z2⟩ := h.zs t _ he i z hi hz;exact ⟨i, d, z, hi, hd, hz, rfl, rfl, rfl, rfl, z1, z2, rfl, rfl, rfl, rfl, rfl, rfl, rfl⟩
  ·cases h1
 ·cases h1
def Zi5 : List D -> Nat -> Option D
 | [], _ => none
 | d :: _, 0 => some d
 | _ :: r, n + 1 => Zi5 r n
theorem Zc1 : ∀ (l : List D) (n : Nat), Zi5 l n = l[n]?
 | [], n => by simp [Zi5]
 | d :: _, 0 => by simp [Zi5]
 | _ :: r, n + 1 => by simp [Zi5, Zc1 r n]
def Z1m : List Blk -> Nat -> Option Blk
 | [], _ => none
 | d :: _, 0 => some d
 | _ :: r, n + 1 => Z1m r n
theorem Z1u : ∀ (l : List Blk) (n : Nat), Z1m l n = l[n]?
 | [], n => by simp [Z1m]
 | d :: _, 0 => by simp [Z1m]
 | _ :: r, n + 1 => by simp [Z1m, Z1u r n]
theorem Z42 {H : List Blk} {k : Nat} {x : OB} (h : Z1m H k = some (.ob x)) : Z13 H k = some x := by rw [Z1u] at h; rw [Z19 h]; rfl
def ldD (A : Ar) (agg : Bool) (n off : Nat) (K : D -> Prop) : D -> Prop
 | .agg cs =>
  match agg with
  | true => (match Nat.ble (off + n) cs.length with | true => K (.agg ((cs.drop off).take n)) | false => False)
  | false => (match Zi5 cs off with | some x => K x | none => False)
 | .arr cs =>
  match agg with
  | true => (match off with | 0 => A.lenIs cs n /\ K (.arr cs) | _ + 1 => False)
  | false => Need (A.get cs off) K
 | .any => False
 | x =>
  match agg with
  | true => False
  | false => (match off with | 0 => K x | _ + 1 => False)
def ldS (A : Ar) (agg : Bool) (off : Nat) (K : D -> Prop) : D -> Prop
 | .agg cs => (match agg with | true => False | false => Need (A.get cs off) K)
 | .arr cs => (match agg with | true => False | false => Need (A.get cs off) K)
 | _ => False
def ldP (A : Ar) (H : List Blk) (agg : Bool) (n : Nat) (K : D -> Prop) : D -> Prop
 | .b k off => (match Z1m H k with | some (.box d) => ldD A agg n off K d | _ => False)
 | .bs k off => (match Z1m H k with | some (.box d) => ldS A agg off K d | _ => False)
 | .p k sz i off => (match Z1m H k with | some (.els sz' es) => (match Nat.beq sz sz' with | true => Need (A.get es i) (ldD A agg n off K) | false => False) | some (.elo sz' es) => (match Nat.beq sz sz' with | true => Need (A.get es i) (ldD A agg n off K) | false => False) | _ => False)
 | .ip _ es i off => Need (A.get es i) (ldD A agg n off K)
 | .cb d off => ldD A agg n off K d
 | _ => False
section
variable {P : Program} {T : TT} {F : Fz} {μ : Mu} {w : World}
theorem add_lit (b o j : Nat) : (⟨b, o, none⟩ : Addr).add j = ⟨b, o + j, none⟩ := by unfold Addr.add; split <;> simp_all
theorem Zc2 (hT : TOK P T) {t : TypeId} {e : TE} (he : Z1d T t = some e) : (isAgg t).run P w = .ok e.agg w := by
 obtain ⟨i, d, z, h1, h2, h3, h4, h5, h6, -⟩ := hT.at he;unfold isAgg;rw [Sem.run_bind, run_underlying h2 w, h6]
 cases d <;> rfl
theorem Z6i (hT : TOK P T) {t : TypeId} {e : TE} (he : Z1d T t = some e) : (sizeOf t).run P w = .ok e.size w := by
 obtain ⟨i, d, z, h1, h2, h3, h4, -⟩ := hT.at he;simp [sizeOf, typeInfo, h1, h4]
theorem Z7s (hT : TOK P T) {t : TypeId} {e : TE} (he : Z1d T t = some e) {d : D} {b base off : Nat} {K : D -> Prop}
  (hc : ∀ (r : Nat) (c : D), d.cells[r]? = some c -> ∃ v, w.cell? ⟨b, base + r, none⟩ = some v /\ v.oneCell' = true /\ VR F μ c v) (h : ldD ar e.agg e.size off K d) :
  ∃ x v, (loadVar t ⟨b, base + off, none⟩).run P w = .ok v w /\ VR F μ x v /\ K x := by
 have one : ∀ (cs : List D), d.cells = cs -> ∀ x, cs[off]? = some x -> e.agg = false -> K x -> ∃ x v, (loadVar t ⟨b, base + off, none⟩).run P w = .ok v w /\ VR F μ x v /\ K x := fun cs hcs x hx ha hk => by
  obtain ⟨v, h1, h2, h3⟩ := hc off x (hcs ▸ hx);refine ⟨x, v, ?_, h3, hk⟩;unfold loadVar;rw [Sem.run_bind, Zc2 hT he, ha];simp [load, Sem.run, h1]
 have many : ∀ (cs : List D), d.cells = cs -> off + e.size <= cs.length -> e.agg = true -> ∃ vs : Array Value, (loadVar t ⟨b, base + off, none⟩).run P w = .ok (.agg vs) w /\
   ((cs.drop off).take e.size).length = vs.size /\ (∀ (i : Nat) (c : D) (v : Value), ((cs.drop off).take e.size)[i]? = some c -> vs[i]? = some v -> VR F μ c v) /\ (∀ (i : Nat) (v : Value), vs[i]? = some v -> v.oneCell' = true) := fun cs hcs hle ha => by
  have hch : ∀ r : Fin e.size, ∃ v, w.cell? ⟨b, base + off + r.1, none⟩ = some v /\ v.oneCell' = true /\ ∀ c, cs[off + r.1]? = some c -> VR F μ c v := fun r => by
   have hlt : off + r.1 < cs.length := by have := r.2; omega
   obtain ⟨v, h1, h2, h3⟩ := hc (off + r.1) cs[off + r.1] (by rw [hcs]; exact List.getElem?_eq_getElem hlt);refine ⟨v, by rw [Nat.add_assoc]; exact h1, h2, fun c hcc => ?_⟩;rw [List.getElem?_eq_getElem hlt] at hcc; cases hcc; exact h3
  let vs : List Value := (List.finRange e.size).map fun r => Classical.choose (hch r)
  have hget : ∀ j v, vs[j]? = some v -> ∃ hj : j < e.size, v = Classical.choose (hch ⟨j, hj⟩) := fun j v hj => by
   simp only [vs, List.getElem?_map, Option.map_eq_some_iff] at hj;obtain ⟨r, hr, rfl⟩ := hj;obtain ⟨h1, h2⟩ := List.getElem?_eq_some_iff.1 hr;simp only [List.length_finRange] at h1;refine ⟨h1, ?_⟩;have : r = ⟨j, h1⟩ := by rw [<- h2]; simp
   rw [this]
  have hlen : vs.length = e.size := by simp [vs]
  refine ⟨vs.toArray, ?_, by simp [hlen]; omega, fun i c v hi hv => ?_, fun i v hv => ?_⟩
  ·have hrun := run_loadCells_list (P := P) w ⟨b, base + off, none⟩ vs (fun j v hj => by
    obtain ⟨h1, rfl⟩ := hget j v hj
    rw [add_lit]; exact (Classical.choose_spec (hch ⟨j, h1⟩)).1)
   unfold loadVar;rw [Sem.run_bind, Zc2 hT he, ha];simp only [Result.andThen_ok, if_true, Sem.run_bind, Z6i hT he];rw [<- hlen, hrun]; rfl
  ·obtain ⟨h1, rfl⟩ := hget i v (by simpa using hv);rw [List.getElem?_take, if_pos h1, List.getElem?_drop] at hi;exact (Classical.choose_spec (hch ⟨i, h1⟩)).2.2 c hi
  ·obtain ⟨h1, rfl⟩ := hget i v (by simpa using hv);exact (Classical.choose_spec (hch ⟨i, h1⟩)).2.1
 cases d
 case agg cs =>
  simp only [ldD] at h
  split at h
  ·rename_i ha
   split at h
   ·rename_i hb
    obtain ⟨vs, h1, h2, h3, h4⟩ := many cs rfl (Nat.le_of_ble_eq_true hb) ha;exact ⟨_, _, h1, .agg _ _ h2 h3 h4, h⟩
   ·exact h.elim
  ·rename_i ha
   rw [Zc1] at h
   split at h
   ·rename_i x hx; exact one cs rfl x hx ha h
   ·exact h.elim
 case arr cs =>
  simp only [ldD] at h
  split at h
  ·rename_i ha
   split at h
   ·obtain ⟨hl, h⟩ := h;have hl : cs.length = e.size := hl;obtain ⟨vs, h1, h2, h3, h4⟩ := many cs rfl (by omega) ha;rw [List.drop_zero, List.take_of_length_le (by omega)] at h2 h3;exact ⟨_, _, h1, .arr _ _ h2 h3 h4, h⟩
   ·exact h.elim
  ·rename_i ha
   obtain ⟨x, hx, hk⟩ := h.out;exact one cs rfl x hx ha hk
 case any => exact h.elim
 all_goals
  simp only [ldD] at h
  split at h
  ·exact h.elim
  ·rename_i ha
   split at h
   ·exact one _ rfl _ rfl ha h
   ·exact h.elim
theorem Zp5 (hT : TOK P T) {t : TypeId} {e : TE} (he : Z1d T t = some e) {d : D} {b off : Nat} {K : D -> Prop}
  (hc : ∀ (r : Nat) (c : D), d.cells[r]? = some c -> ∃ v, w.cell? ⟨b, r, none⟩ = some v /\ v.oneCell' = true /\ VR F μ c v) (h : ldS ar e.agg off K d) :
  ∃ x v, (loadVar t ⟨b, off, none⟩).run P w = .ok v w /\ VR F μ x v /\ K x := by
 have one : ∀ (cs : List D), d.cells = cs -> ∀ x, cs[off]? = some x -> e.agg = false -> K x -> ∃ x v, (loadVar t ⟨b, off, none⟩).run P w = .ok v w /\ VR F μ x v /\ K x := fun cs hcs x hx ha hk => by
  obtain ⟨v, h1, h2, h3⟩ := hc off x (hcs ▸ hx);refine ⟨x, v, ?_, h3, hk⟩;unfold loadVar;rw [Sem.run_bind, Zc2 hT he, ha];simp [load, Sem.run, h1]
 cases d <;> try exact h.elim
 all_goals
  simp only [ldS] at h
  split at h
  ·exact h.elim
  ·rename_i ha
   obtain ⟨x, hx, hk⟩ := h.out;exact one _ rfl x hx ha hk
theorem HR.cells {H : List Blk} (h : HR F μ H w) {k sz b m : Nat} {es : List D} (hb : Z17 H k = some (sz, es)) (hμ : μ k = some (some (b, m))) (i : Nat) (e : D) (he : es[i]? = some e) (r : Nat) (d : D) (hd : e.cells[r]? = some d) :
  ∃ v, w.cell? ⟨b, i * sz + r, none⟩ = some v /\ v.oneCell' = true /\ VR F μ d v := by
 rcases h.row k sz es hb (by rw [hμ]; simp) with ⟨e1, -⟩ | ⟨b', m', c, t, e1, e2, -, -, hc⟩
 ·rw [hμ] at e1; cases e1
 ·rw [hμ] at e1; cases e1;obtain ⟨v, h1, h2, h3⟩ := (hc i e he).2 r d hd;exact ⟨v, by simp only [World.cell?, e2]; exact h1, h2, h3⟩
theorem Z7c {H : List Blk} {k : Nat} {d : D} (h : Z1m H k = some (.box d)) : Z17 H k = some (d.cells.length, [d]) := by
 rw [Z1u] at h; simp [Z17, h, Blk.es]
theorem Z5f {H : List Blk} {k sz : Nat} {es : List D} (h : Z1m H k = some (.els sz es)) : Z17 H k = some (sz, es) := by
 rw [Z1u] at h; simp [Z17, h, Blk.es]
theorem Z8e {H : List Blk} {k sz : Nat} {es : List D} (h : Z1m H k = some (.elo sz es)) : Z17 H k = some (sz, es) := by
 rw [Z1u] at h; simp [Z17, h, Blk.es]
theorem Zgk (hT : TOK P T) {t : TypeId} {e : TE} (he : Z1d T t = some e) {H : List Blk} (hr : HR F μ H w) {d : D} {v : Value} (hv : VR F μ d v) {K : D -> Prop} (h : ldP ar H e.agg e.size K d) :
  ∃ x y, (Instr.loadAt t v).run P w = .ok y w /\ VR F μ x y /\ K x := by
 have fin : ∀ a, v = .pointer (some a) -> (∃ x y, (loadVar t a).run P w = .ok y w /\ VR F μ x y /\ K x) -> ∃ x y, (Instr.loadAt t v).run P w = .ok y w /\ VR F μ x y /\ K x := fun a ha ⟨x, y, h1, h2⟩ =>
  ⟨x, y, by subst ha; simp only [Instr.loadAt, Instr.sureAddr, Sem.run_bind, Sem.run_pure, Result.andThen_ok, h1], h2⟩
 cases d <;> try exact h.elim
 case b k off =>
  simp only [ldP] at h
  split at h
  ·rename_i d hd
   cases hv with
   | cl _ _ hc => cases hc
   | b _ _ b m hμ =>
    refine fin _ rfl ?_;have := Z7s hT he (w := w) (F := F) (μ := μ) (b := b) (base := 0) (off := off) (d := d) (fun r c hrc => by simpa using hr.cells (Z7c hd) hμ 0 d rfl r c hrc) h;simpa using this
  ·exact h.elim
 case bs k off =>
  simp only [ldP] at h
  split at h
  ·rename_i d hd
   cases hv with
   | cl _ _ hc => cases hc
   | bs _ _ b m hμ => exact fin _ rfl (Zp5 hT he (d := d) (fun r c hrc => by simpa using hr.cells (Z7c hd) hμ 0 d rfl r c hrc) h)
  ·exact h.elim
 case p k sz i off =>
  simp only [ldP] at h
  split at h
  ·rename_i sz' es hd
   split at h
   ·rename_i hsz
    obtain rfl := Nat.eq_of_beq_eq_true hsz;obtain ⟨e1, he1, hk⟩ := h.out
    cases hv with
    | cl _ _ hc => cases hc
    | p _ _ _ _ b m hμ => exact fin _ rfl (Z7s hT he (fun r c hrc => hr.cells (Z5f hd) hμ i e1 he1 r c hrc) hk)
   ·exact h.elim
  ·rename_i sz' es hd
   split at h
   ·rename_i hsz
    obtain rfl := Nat.eq_of_beq_eq_true hsz;obtain ⟨e1, he1, hk⟩ := h.out
    cases hv with
    | cl _ _ hc => cases hc
    | p _ _ _ _ b m hμ => exact fin _ rfl (Z7s hT he (fun r c hrc => hr.cells (Z8e hd) hμ i e1 he1 r c hrc) hk)
   ·exact h.elim
  ·exact h.elim
 case ip sz es i off =>
  obtain ⟨e1, he1, hk⟩ := h.out
  cases hv with
  | cl _ _ hc =>
   cases hc with
   | ip _ _ b o _ _ val hz hf hv => exact fin _ rfl (Z7s hT he (fun r c hrc => ⟨_, (hr.frz _ _ _ (hf i e1 r c he1 hrc).1).1, (hf i e1 r c he1 hrc).2, .cl _ _ (hv i e1 r c he1 hrc)⟩) hk)
 case cb d off =>
  simp only [ldP] at h
  cases hv with
  | cl _ _ hc =>
   cases hc with
   | cb _ b o _ val hf hv => exact fin _ rfl (Z7s hT he (fun r c hrc => ⟨_, (hr.frz _ _ _ (hf r c hrc).1).1, (hf r c hrc).2, .cl _ _ (hv r c hrc)⟩) h)
end
end Go.Abs

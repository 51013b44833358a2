/- Part MachA of the proofs about the benches of the accordion maker: see the last text of the claim for what is proved. -/
import Derived.RangeFuncIn
import Derived.OrdersIn
import Derived.Laws.AppendOwn
import Derived.Laws.StructEq
import Derived.ChangeKeysEq
import Derived.MapKept
import Derived.Laws.CopyRow
import Derived.Laws.Rows
set_option linter.unusedVariables false
set_option linter.unusedSimpArgs false
set_option linter.unnecessarySimpa false
set_option linter.constructorNameAsVariable false

namespace Go.Abs
open Go
def Z5m (P : Program) (fl : TypeId -> Option Nat) : List Field -> Nat -> Option Nat
 | [], off => some off
 | f :: r, off => if f.name = "_" ∨ f.offset ≠ off then none else
  match fl f.type with
  | some k => if P.cellsOf f.type = k then Z5m P fl r (off + k) else none
  | none => none
def Z3e (P : Program) : Nat -> TypeId -> Option Nat
 | 0 => fun _ => none
 | m + 1 => fun t =>
  match P.underlying t with
  | some (.int .i64) => if P.cellsOf t = 1 then some 1 else none
  | some (.array n e) => match Z3e P m e with
   | some k => if P.cellsOf e = k /\ P.cellsOf t = n * k then some (n * k) else none
   | none => none
  | some (.struct fs) => if P.stoodInHeld t then none else
   match Z5m P (Z3e P m) fs.toList 0 with
   | some k => if P.cellsOf t = k then some k else none
   | none => none
  | _ => none
def Z1k (ag : Bool) (l : List Int) : Value := if ag then .agg (l.map (Value.int .i64)).toArray else .int .i64 (l.headD 0)
def Z3j (P : Program) (t : TypeId) : Bool := match P.underlying t with | some (.struct _) | some (.array _ _) => true | _ => false
section
variable {P : Program}
theorem Znp {t : TypeId} {d : TypeDesc} (h : P.underlying t = some d) : ∃ i, P.info? t = some i := by
 unfold Program.underlying at h
 cases hi : P.info? t with
 | some i => exact ⟨i, rfl⟩
 | none => simp [hi] at h
theorem Z93 {t : TypeId} {d : TypeDesc} (h : P.underlying t = some d) (w : World) : (sizeOf t).run P w = .ok (P.cellsOf t) w := by
 obtain ⟨i, hi⟩ := Znp h;exact run_sizeOf w hi
theorem Z8c {m : Nat} {t : TypeId} {n : Nat} (h : Z3e P m t = some n) : ∃ d, P.underlying t = some d /\ P.cellsOf t = n := by
 cases m with
 | zero => simp [Z3e] at h
 | succ m =>
  unfold Z3e at h
  split at h
  ·rename_i hu; split at h
   ·rename_i hc; cases h; exact ⟨_, hu, hc⟩
   ·cases h
  ·rename_i hu; split at h
   ·split at h
    ·rename_i hc; cases h; exact ⟨_, hu, hc.2⟩
    ·cases h
   ·cases h
  ·rename_i hu; split at h
   ·cases h
   ·split at h
    ·split at h
     ·rename_i hc; cases h; exact ⟨_, hu, hc⟩
     ·cases h
    ·cases h
  ·cases h
theorem Zi2 (l : List Int) (off k : Nat) : ((l.map (Value.int .i64)).toArray.extract off (off + k)) = (((l.drop off).take k).map (Value.int .i64)).toArray := by
 apply Array.ext'
 simp [List.extract, List.map_drop, List.map_take]
theorem Z47 {m : Nat} {t : TypeId} {n : Nat} (h : Z3e P m t = some n) (l : List Int) (off : Nat) (hl : off + n <= l.length) (w : World) :
  (part t (l.map (Value.int .i64)).toArray off).run P w = .ok (Z1k (Z3j P t) ((l.drop off).take n)) w := by
 obtain ⟨d, hd, hc⟩ := Z8c h
 cases m with
 | zero => simp [Z3e] at h
 | succ m =>
  have agg : Z3j P t = true -> (part t (l.map (Value.int .i64)).toArray off).run P w = .ok (Z1k (Z3j P t) ((l.drop off).take n)) w := fun ha => by
   have hi : (isAgg t).run P w = .ok true w := by
    unfold isAgg;rw [Sem.run_bind, run_underlying hd w];unfold Z3j at ha;rw [hd] at ha
    cases d <;> simp at ha <;> rfl
   unfold part;simp only [Sem.run_bind, hi, Result.andThen_ok, if_true, Z93 hd, hc, Sem.run_pure, ha, Z1k, Zi2]
  unfold Z3e at h
  split at h
  ·rename_i hu
   split at h
   ·cases h
    have ha : Z3j P t = false := by unfold Z3j; rw [hu]
    have hi : (isAgg t).run P w = .ok false w := by
     unfold isAgg;rw [Sem.run_bind, run_underlying hu w]; rfl
    have hlt : off < l.length := by omega
    unfold part;simp only [Sem.run_bind, hi, Result.andThen_ok, ha, Z1k];have e1 : ((List.map (Value.int .i64) l).toArray)[off]? = some (.int .i64 l[off]) := by simp [hlt]
    have e2 : (List.take 1 (List.drop off l)).head?.getD 0 = l[off] := by
     rw [List.drop_eq_getElem_cons hlt]; rfl
    simp [e1, e2]
   ·cases h
  ·rename_i hu; exact agg (by unfold Z3j; rw [hu])
  ·rename_i hu; exact agg (by unfold Z3j; rw [hu])
  ·cases h
theorem Zen {a b c d : List Int} (h : a.length = b.length) : decide (a ++ c = b ++ d) = (decide (a = b) && decide (c = d)) := by
 by_cases e : a = b
 ·subst e; simp
 ·simp only [e, decide_false, Bool.false_and, decide_eq_false_iff_not];intro he; exact e (List.append_inj he h).1
theorem Z5c : ∀ (m d : Nat) (t : TypeId) (n : Nat), Z3e P m t = some n -> ∀ (xs ys : List Int) (w : World), xs.length = n -> ys.length = n ->
  (Op.equalIn (d + m) t (Z1k (Z3j P t) xs) (Z1k (Z3j P t) ys)).run P w = .ok (decide (xs = ys)) w
 | 0, d, t, n, h, _, _, _, _, _ => by simp [Z3e] at h
 | m + 1, d, t, n, h, xs, ys, w, hx, hy => by
  rw [show d + (m + 1) = (d + m) + 1 by omega];unfold Z3e at h
  split at h
  ·rename_i hu
   split at h
   ·cases h
    have ha : Z3j P t = false := by unfold Z3j; rw [hu]
    match xs, hx, ys, hy with
    | [x], _, [y], _ =>
     rw [ha];simp only [Z1k, List.headD_cons];rw [if_neg (by simp), if_neg (by simp), run_equalIn_int (P := P) w (d + m) t .i64 .i64 x y hu]
     congr 1
     by_cases e : x = y <;> simp [e]
   ·cases h
  ·rename_i n' e hu
   split at h
   ·rename_i k hk
    split at h
    ·rename_i hc; cases h
     have ha : Z3j P t = true := by unfold Z3j; rw [hu]
     obtain ⟨i, hi⟩ := Znp (Z8c hk).choose_spec.1;rw [ha];simp only [Z1k, if_true];rw [run_equalIn_array w (d + m) _ _ hu hi, hc.1];have key : ∀ (j c : Nat), j + c = n' -> (Op.eqItems (d + m) e k (xs.map (Value.int .i64)).toArray (ys.map (Value.int .i64)).toArray (List.range' j c)).run P w = .ok (decide (xs.drop (j * k) = ys.drop (j * k))) w := fun j c => by
      induction c generalizing j with
      | zero =>
       intro hj;simp only [List.range'_zero, Op.eqItems, Sem.run_pure];rw [List.drop_eq_nil_of_le (by rw [hx, <- hj]; simp), List.drop_eq_nil_of_le (by rw [hy, <- hj]; simp)];simp
      | succ c ih =>
       intro hj;have hle : j * k + k <= n' * k := by
        have : (j + 1) * k <= n' * k := Nat.mul_le_mul_right _ (by omega);rw [Nat.add_mul] at this; omega
       simp only [List.range'_succ, Op.eqItems, Sem.run_bind];rw [Z47 hk xs (j * k) (by omega) w];simp only [Result.andThen_ok];rw [Z47 hk ys (j * k) (by omega) w];simp only [Result.andThen_ok];have e1 := Z5c m d e k hk ((xs.drop (j * k)).take k) ((ys.drop (j * k)).take k) w (by simp; omega) (by simp; omega);rw [e1];simp only [Result.andThen_ok];have e2 := ih (j + 1) (by omega);have sx : xs.drop (j * k) = (xs.drop (j * k)).take k ++ xs.drop ((j + 1) * k) := by
        have := (List.take_append_drop k (xs.drop (j * k))).symm;rw [List.drop_drop] at this;rw [show (j + 1) * k = j * k + k by rw [Nat.add_mul]; omega];exact this
       have sy : ys.drop (j * k) = (ys.drop (j * k)).take k ++ ys.drop ((j + 1) * k) := by
        have := (List.take_append_drop k (ys.drop (j * k))).symm;rw [List.drop_drop] at this;rw [show (j + 1) * k = j * k + k by rw [Nat.add_mul]; omega];exact this
       have e3 : decide (xs.drop (j * k) = ys.drop (j * k)) = (decide ((xs.drop (j * k)).take k = (ys.drop (j * k)).take k) && decide (xs.drop ((j + 1) * k) = ys.drop ((j + 1) * k))) := by
        rw [<- Zen (by simp; omega), <- sx, <- sy]
       rw [e3]
       by_cases hb : (xs.drop (j * k)).take k = (ys.drop (j * k)).take k
       ·simp only [hb, decide_true, Bool.not_true, Bool.true_and];simpa using e2
       ·simp [hb]
     have := key 0 n' (by omega);simp only [Nat.zero_mul, List.drop_zero] at this;rw [List.range_eq_range']; exact this
    ·cases h
   ·cases h
  ·rename_i fs hu
   split at h
   ·cases h
   ·rename_i hst
    split at h
    ·rename_i k hgo
     split at h
     ·rename_i hc; cases h
      have ha : Z3j P t = true := by unfold Z3j; rw [hu]
      have hf : P.fieldsOf t = fs := by unfold Program.fieldsOf; rw [hu]
      rw [ha];simp only [Z1k, if_true];rw [run_equalIn_struct w (d + m) t _ _ (by rw [hf]; exact hu) (by simpa using hst), hf];have key : ∀ (l : List Field) (off : Nat), Z5m P (Z3e P m) l off = some n -> (Op.eqFields (d + m) (xs.map (Value.int .i64)).toArray (ys.map (Value.int .i64)).toArray l).run P w = .ok (decide (xs.drop off = ys.drop off)) w := fun l => by
       induction l with
       | nil =>
        intro off hg;simp only [Z5m, Option.some.injEq] at hg;subst hg;simp only [Op.eqFields, Sem.run_pure];rw [List.drop_eq_nil_of_le (by omega), List.drop_eq_nil_of_le (by omega)];simp
       | cons f r ih =>
        intro off hg;simp only [Z5m] at hg
        split at hg
        ·cases hg
        ·rename_i hno
         simp only [not_or, Decidable.not_not] at hno;obtain ⟨hnm, rfl⟩ := hno
         split at hg
         ·rename_i k hk
          split at hg
          ·rename_i hck
           have mono : ∀ (l : List Field) (o n : Nat), Z5m P (Z3e P m) l o = some n -> o <= n := fun l => by
            induction l with
            | nil => intro o n hg; simp only [Z5m, Option.some.injEq] at hg; omega
            | cons f r ih =>
             intro o n hg;simp only [Z5m] at hg
             split at hg
             ·cases hg
             ·split at hg
              ·split at hg
               ·have := ih _ _ hg; omega
               ·cases hg
              ·cases hg
           have hle := mono _ _ _ hg;simp only [Op.eqFields, hnm, ne_eq, not_false_eq_true, if_true, Sem.run_bind];rw [Z47 hk xs f.offset (by omega) w];simp only [Result.andThen_ok];rw [Z47 hk ys f.offset (by omega) w];simp only [Result.andThen_ok];rw [Z5c m d f.type k hk ((xs.drop f.offset).take k) ((ys.drop f.offset).take k) w (by simp; omega) (by simp; omega)];simp only [Result.andThen_ok];have e2 := ih (f.offset + k) hg;have sx : xs.drop f.offset = (xs.drop f.offset).take k ++ xs.drop (f.offset + k) := by
            have := (List.take_append_drop k (xs.drop f.offset)).symm;rw [List.drop_drop] at this; exact this
           have sy : ys.drop f.offset = (ys.drop f.offset).take k ++ ys.drop (f.offset + k) := by
            have := (List.take_append_drop k (ys.drop f.offset)).symm;rw [List.drop_drop] at this; exact this
           have e3 : decide (xs.drop f.offset = ys.drop f.offset) = (decide ((xs.drop f.offset).take k = (ys.drop f.offset).take k) && decide (xs.drop (f.offset + k) = ys.drop (f.offset + k))) := by
            rw [<- Zen (by simp; omega), <- sx, <- sy]
           rw [e3]
           by_cases hb : (xs.drop f.offset).take k = (ys.drop f.offset).take k
           ·simp only [hb, decide_true, Bool.not_true, Bool.true_and];simpa using e2
           ·simp [hb]
          ·cases hg
         ·cases hg
      have := key fs.toList 0 hgo;simpa using this
     ·cases h
    ·cases h
  ·cases h
theorem Z5d (em : Bool) : ∀ (m d : Nat) (t : TypeId) (n : Nat), Z3e P m t = some n -> ∀ (xs : List Int) (w : World), xs.length = n -> (Instr.checkKey em (d + m) t (Z1k (Z3j P t) xs)).run P w = .ok () w
 | 0, d, t, n, h, _, _, _ => by simp [Z3e] at h
 | m + 1, d, t, n, h, xs, w, hx => by
  rw [show d + (m + 1) = (d + m) + 1 by omega];unfold Z3e at h
  split at h
  ·rename_i hu
   split at h
   ·have ha : Z3j P t = false := by unfold Z3j; rw [hu]
    rw [ha];simp [Z1k, Instr.checkKey, run_underlying hu]
   ·cases h
  ·rename_i n' e hu
   split at h
   ·rename_i k hk
    split at h
    ·rename_i hc; cases h
     have ha : Z3j P t = true := by unfold Z3j; rw [hu]
     obtain ⟨de, hde, -⟩ := Z8c hk;rw [ha];simp only [Z1k, if_true, Instr.checkKey, Sem.run_bind, run_underlying hu, Result.andThen_ok];simp only [Std.Legacy.Range.forIn_eq_forIn_range', Std.Legacy.Range.size, Nat.sub_zero, Nat.add_one_sub_one, Nat.div_one];have each : ∀ j ∈ List.range' 0 n', j * k + k <= xs.length := fun j hj => by
      simp only [List.mem_range'_1] at hj;have : (j + 1) * k <= n' * k := Nat.mul_le_mul_right _ (by omega);rw [Nat.add_mul] at this; omega
     generalize List.range' 0 n' = is at each
     induction is with
     | nil => simp
     | cons j is ih =>
      have hle := each j (by simp);simp only [List.forIn_cons, Sem.run_bind, Z93 hde, hc.1, Result.andThen_ok, Z47 hk xs (j * k) hle w, Z5d em m d e k hk ((xs.drop (j * k)).take k) w (by simp; omega), Sem.run_pure];exact ih (fun y hy => each y (by simp [hy]))
    ·cases h
   ·cases h
  ·rename_i fs hu
   split at h
   ·cases h
   ·split at h
    ·rename_i k hgo
     split at h
     ·rename_i hc; cases h
      have ha : Z3j P t = true := by unfold Z3j; rw [hu]
      rw [ha];simp only [Z1k, if_true, Instr.checkKey, Sem.run_bind, run_underlying hu, Result.andThen_ok];rw [<- Array.forIn_toList];have mono : ∀ (l : List Field) (o n : Nat), Z5m P (Z3e P m) l o = some n -> o <= n := fun l => by
       induction l with
       | nil => intro o n hg; simp only [Z5m, Option.some.injEq] at hg; omega
       | cons f r ih =>
        intro o n hg;simp only [Z5m] at hg
        split at hg
        ·cases hg
        ·split at hg
         ·split at hg
          ·have := ih _ _ hg; omega
          ·cases hg
         ·cases hg
      have each : ∀ (l : List Field) (off : Nat), Z5m P (Z3e P m) l off = some n -> ∀ f ∈ l, f.name ≠ "_" /\ ∃ k, Z3e P m f.type = some k /\ f.offset + k <= n := fun l => by
       induction l with
       | nil => intro _ _ f hf; simp at hf
       | cons f r ih =>
        intro off hg;simp only [Z5m] at hg
        split at hg
        ·cases hg
        ·rename_i hno
         simp only [not_or, Decidable.not_not] at hno;obtain ⟨hnm, rfl⟩ := hno
         split at hg
         ·rename_i k hk
          split at hg
          ·intro f' hf';rcases List.mem_cons.1 hf' with rfl | hf'
           ·exact ⟨hnm, k, hk, mono _ _ _ hg⟩
           ·exact ih _ hg f' hf'
          ·cases hg
         ·cases hg
      have each := each fs.toList 0 hgo
      generalize fs.toList = L at each
      induction L with
      | nil => simp
      | cons f L ih =>
       obtain ⟨hnm, k, hk, hle⟩ := each f (by simp);simp only [List.forIn_cons, Sem.run_bind, hnm, ne_eq, not_false_eq_true, if_true, Result.andThen_ok, Z47 hk xs f.offset (by omega) w, Z5d em m d f.type k hk ((xs.drop f.offset).take k) w (by simp; omega), Sem.run_pure];exact ih (fun y hy => each y (by simp [hy]))
     ·cases h
    ·cases h
  ·cases h
theorem Zb0 {m : Nat} (hm : m <= 10000) {t : TypeId} {n : Nat} (h : Z3e P m t = some n) (xs : List Int) (hx : xs.length = n) (w : World) : ∀ (es : List MapEntry) (ks : List (List Int)), es.length = ks.length ->
  (∀ (i : Nat) (e : MapEntry) (l : List Int), es[i]? = some e -> ks[i]? = some l -> e.key = Z1k (Z3j P t) l /\ l.length = n) -> ∀ i0,
  (Instr.findAsking t (Z1k (Z3j P t) xs) es i0).run P w = .ok ((ks.findIdx? (· == xs)).bind fun j => (es[j]?).map fun e => (i0 + j, e.val)) w
 | [], ks, hl, _, i0 => by
  cases ks with
  | nil => simp [Instr.findAsking]
  | cons => simp at hl
 | e :: es, [], hl, _, _ => by simp at hl
 | e :: es, k :: ks, hl, hk, i0 => by
  obtain ⟨h1, h2⟩ := hk 0 e k rfl rfl;have ih := Zb0 hm h xs hx w es ks (by simpa using hl) (fun i e l a b => hk (i + 1) e l (by simpa using a) (by simpa using b)) (i0 + 1);have heq : (Op.equal t (Z1k (Z3j P t) xs) e.key).run P w = .ok (decide (xs = k)) w := by
   rw [h1];have := Z5c m (10000 - m) t n h xs k w hx h2;rw [show 10000 - m + m = 10000 by omega] at this;exact this
  simp only [Instr.findAsking, Sem.run_bind, heq, Result.andThen_ok]
  by_cases e1 : xs = k
  ·subst e1; simp [List.findIdx?_cons]
  ·have : (k == xs) = false := by simpa using fun e => e1 e.symm
   simp only [decide_eq_true_eq, e1, Bool.false_eq_true, if_false, ih, List.findIdx?_cons, this]
   cases ks.findIdx? (· == xs) with
   | none => simp
   | some j => simp [Nat.add_assoc, Nat.add_comm 1 j]
theorem Z7r {q : IntKind} (x : Int) : ∀ (es : List MapEntry) (ks : List (List Int)), es.length = ks.length ->
  (∀ (i : Nat) (e : MapEntry) (l : List Int), es[i]? = some e -> ks[i]? = some l -> e.key = Z1k false l /\ l.length = 1) -> ∀ i0,
  Instr.findNow (.int q) (.int .i64 x) es i0 = some ((ks.findIdx? (· == [x])).bind fun j => (es[j]?).map fun e => (i0 + j, e.val))
 | [], ks, hl, _, i0 => by
  cases ks with
  | nil => simp [Instr.findNow]
  | cons => simp at hl
 | e :: es, [], hl, _, _ => by simp at hl
 | e :: es, k :: ks, hl, hk, i0 => by
  obtain ⟨h1, h2⟩ := hk 0 e k rfl rfl;have ih := Z7r (q := q) x es ks (by simpa using hl) (fun i e l a b => hk (i + 1) e l (by simpa using a) (by simpa using b)) (i0 + 1)
  match k, h2 with
  | [y], _ =>
   simp only [Z1k, List.headD_cons] at h1;rw [if_neg (by simp)] at h1;simp only [Instr.findNow, h1, Instr.sameNow, if_true]
   by_cases e1 : x = y
   ·subst e1; simp [List.findIdx?_cons]
   ·have e2 : (x == y) = false := by simpa using e1
    have : (([y] : List Int) == [x]) = false := by simpa using fun e => e1 e.symm
    simp only [e2, ih, List.findIdx?_cons, this]
    cases ks.findIdx? (· == [x]) with
    | none => simp
    | some j => simp [Nat.add_assoc, Nat.add_comm 1 j]
theorem Zd2 {m : Nat} (hm : m <= 10000) {t : TypeId} {n : Nat} (h : Z3e P m t = some n) (xs : List Int) (hx : xs.length = n) (w : World) (es : List MapEntry) (ks : List (List Int)) (hl : es.length = ks.length)
  (hk : ∀ (i : Nat) (e : MapEntry) (l : List Int), es[i]? = some e -> ks[i]? = some l -> e.key = Z1k (Z3j P t) l /\ l.length = n) :
  (Instr.findKey t (Z1k (Z3j P t) xs) es).run P w = .ok ((ks.findIdx? (· == xs)).bind fun j => (es[j]?).map fun e => (j, e.val)) w := by
 have ask := Zb0 hm h xs hx w es ks hl hk 0;simp only [Nat.zero_add] at ask;obtain ⟨d, hd, hc⟩ := Z8c h
 cases m with
 | zero => simp [Z3e] at h
 | succ m =>
  have agg : Z3j P t = true -> (Instr.findKey t (Z1k (Z3j P t) xs) es).run P w = .ok ((ks.findIdx? (· == xs)).bind fun j => (es[j]?).map fun e => (j, e.val)) w := fun ha => by
   unfold Instr.findKey;rw [Sem.run_bind, run_underlying hd w];simp only [Result.andThen_ok]
   cases es with
   | nil =>
    cases ks with
    | nil => simp [Instr.findNow]
    | cons => simp at hl
   | cons e es =>
    have : Instr.findNow d (Z1k (Z3j P t) xs) (e :: es) 0 = none := by
     have hs : Instr.sameNow d (Z1k (Z3j P t) xs) e.key = none := by
      rw [ha]; simp only [Z1k, if_true];unfold Z3j at ha;rw [hd] at ha
      cases d <;> simp at ha <;> rfl
     simp only [Instr.findNow, hs]
    rw [this];exact ask
  have h' := h;unfold Z3e at h'
  split at h'
  ·rename_i hu
   split at h'
   ·cases h'
    have ha : Z3j P t = false := by unfold Z3j; rw [hu]
    match xs, hx with
    | [x], _ =>
     rw [ha] at hk ⊢;have := Z7r (q := .i64) x es ks hl hk 0;simp only [Nat.zero_add] at this;unfold Instr.findKey;rw [Sem.run_bind, run_underlying hu w];simp only [Result.andThen_ok, Z1k, List.headD_cons];rw [if_neg (by simp), this];rfl
   ·cases h'
  ·rename_i hu; exact agg (by unfold Z3j; rw [hu])
  ·rename_i hu; exact agg (by unfold Z3j; rw [hu])
  ·cases h'
theorem Zeo (ag : Bool) (xs : List Int) (w : World) : (Instr.keyThatStays (Z1k ag xs) (Z1k ag xs)).run P w = .ok (Z1k ag xs) w := by
 have : Instr.sameBits 10000 (Z1k ag xs) (Z1k ag xs) = true := by
  cases ag
  ·simp [Z1k, Instr.sameBits]
  ·simp only [Z1k, if_true];show Instr.sameBits (9999 + 1) _ _ = true;simp only [Instr.sameBits, beq_self_eq_true, Bool.true_and, List.all_eq_true];intro p hp;obtain ⟨i, hi, e⟩ := List.getElem_of_mem hp;rw [List.getElem_zip] at e;rw [<- e];simp [Instr.sameBits]
 simp [Instr.keyThatStays, this]
end
end Go.Abs

namespace Go.Abs
open Go
inductive D where
 | v (x : Value)
 | agg (cs : List D)
 | arr (cs : List D)
 | tup (cs : List D)
 | sl (sz : Nat) (es : List D)
 | ip (sz : Nat) (es : List D) (i off : Nat)
 | cb (d : D) (off : Nat)
 | b (k off : Nat)
 | bs (k off : Nat)
 | p (k sz i off : Nat)
 | o (k sz n : Nat)
 | fn (f : FuncId) (caps : List D)
 | yv (k : Nat)
 | mv (k : Nat)
 | z0
 | ifc (t : TypeId) (d : D)
 | any
def D.cells : D -> List D
 | .agg cs => cs
 | .arr cs => cs
 | d => [d]
def Zxj : Value := .iface 183 (.agg #[.pointer (some ⟨4, 149, none⟩)])
structure Fz where
 f : Nat -> Nat -> Option Value
 kn : True
instance : CoeFun Fz (fun _ => Nat -> Nat -> Option Value) := ⟨Fz.f⟩
def Fz.nil : Fz := ⟨fun b o => if b = 0 /\ o = 0 then some Zxj else none, by simp⟩
structure Mu where
 loc : Nat -> Option (Option (Nat × Nat))
 inn : Nat -> Nat -> Prop
instance : CoeFun Mu (fun _ => Nat -> Option (Option (Nat × Nat))) := ⟨Mu.loc⟩
def Mu.ren (μ : Mu) (ρ : Nat -> Nat) : Mu := ⟨fun i => μ.loc (ρ i), fun i => μ.inn (ρ i)⟩
@[simp] theorem Mu.ren_loc (μ : Mu) (ρ : Nat -> Nat) (i : Nat) : (μ.ren ρ) i = μ (ρ i) := rfl
@[simp] theorem Mu.ren_inn (μ : Mu) (ρ : Nat -> Nat) (i b : Nat) : (μ.ren ρ).inn i b = μ.inn (ρ i) b := rfl
inductive CR (F : Fz) : D -> Value -> Prop
 | v (x : Value) (ho : x.oneCell' = true) : CR F (.v x) x
 | any (x : Value) : CR F .any x
 | agg (cs : List D) (vs : Array Value) (hl : cs.length = vs.size) (h : ∀ (i : Nat) (c : D) (v : Value), cs[i]? = some c -> vs[i]? = some v -> CR F c v) (ho : ∀ (i : Nat) (v : Value), vs[i]? = some v -> v.oneCell' = true) : CR F (.agg cs) (.agg vs)
 | arr (cs : List D) (vs : Array Value) (hl : cs.length = vs.size) (h : ∀ (i : Nat) (c : D) (v : Value), cs[i]? = some c -> vs[i]? = some v -> CR F c v) (ho : ∀ (i : Nat) (v : Value), vs[i]? = some v -> v.oneCell' = true) : CR F (.arr cs) (.agg vs)
 | tup (cs : List D) (vs : Array Value) (hl : cs.length = vs.size) (h : ∀ (i : Nat) (c : D) (v : Value), cs[i]? = some c -> vs[i]? = some v -> CR F c v) : CR F (.tup cs) (.tuple vs)
 | slE (sz : Nat) (a : Option Addr) (cap : Nat) : CR F (.sl sz []) (.slice a 0 cap)
 | z0 (a : Option Addr) : CR F .z0 (.slice a 0 0)
 | sl (sz : Nat) (es : List D) (b o cap : Nat) (val : Nat -> Nat -> Value) (hc : es.length <= cap) (hz : ∀ (i : Nat) (e : D), es[i]? = some e -> e.cells.length = sz)
   (hf : ∀ (i : Nat) (e : D) (r : Nat) (c : D), es[i]? = some e -> e.cells[r]? = some c -> F b (o + i * sz + r) = some (val i r) /\ (val i r).oneCell' = true)
   (hv : ∀ (i : Nat) (e : D) (r : Nat) (c : D), es[i]? = some e -> e.cells[r]? = some c -> CR F c (val i r)) : CR F (.sl sz es) (.slice (some ⟨b, o, none⟩) es.length cap)
 | ip (sz : Nat) (es : List D) (b o i off : Nat) (val : Nat -> Nat -> Value) (hz : ∀ (i : Nat) (e : D), es[i]? = some e -> e.cells.length = sz)
   (hf : ∀ (i : Nat) (e : D) (r : Nat) (c : D), es[i]? = some e -> e.cells[r]? = some c -> F b (o + i * sz + r) = some (val i r) /\ (val i r).oneCell' = true)
   (hv : ∀ (i : Nat) (e : D) (r : Nat) (c : D), es[i]? = some e -> e.cells[r]? = some c -> CR F c (val i r)) : CR F (.ip sz es i off) (.pointer (some ⟨b, o + i * sz + off, none⟩))
 | cb (d : D) (b o off : Nat) (val : Nat -> Value)
   (hf : ∀ (r : Nat) (c : D), d.cells[r]? = some c -> F b (o + r) = some (val r) /\ (val r).oneCell' = true)
   (hv : ∀ (r : Nat) (c : D), d.cells[r]? = some c -> CR F c (val r)) : CR F (.cb d off) (.pointer (some ⟨b, o + off, none⟩))
 | fn (f : FuncId) (cs : List D) (vs : Array Value) (hl : cs.length = vs.size) (h : ∀ (i : Nat) (c : D) (v : Value), cs[i]? = some c -> vs[i]? = some v -> CR F c v) : CR F (.fn f cs) (.func (.func f) #[] vs)
 | ifc (t : TypeId) (d : D) (v : Value) (h : CR F d v) : CR F (.ifc t d) (.iface t v)
inductive VR (F : Fz) (μ : Mu) : D -> Value -> Prop
 | cl (d : D) (v : Value) (h : CR F d v) : VR F μ d v
 | agg (cs : List D) (vs : Array Value) (hl : cs.length = vs.size) (h : ∀ (i : Nat) (c : D) (v : Value), cs[i]? = some c -> vs[i]? = some v -> VR F μ c v) (ho : ∀ (i : Nat) (v : Value), vs[i]? = some v -> v.oneCell' = true) : VR F μ (.agg cs) (.agg vs)
 | arr (cs : List D) (vs : Array Value) (hl : cs.length = vs.size) (h : ∀ (i : Nat) (c : D) (v : Value), cs[i]? = some c -> vs[i]? = some v -> VR F μ c v) (ho : ∀ (i : Nat) (v : Value), vs[i]? = some v -> v.oneCell' = true) : VR F μ (.arr cs) (.agg vs)
 | tup (cs : List D) (vs : Array Value) (hl : cs.length = vs.size) (h : ∀ (i : Nat) (c : D) (v : Value), cs[i]? = some c -> vs[i]? = some v -> VR F μ c v) : VR F μ (.tup cs) (.tuple vs)
 | fn (f : FuncId) (cs : List D) (vs : Array Value) (hl : cs.length = vs.size) (h : ∀ (i : Nat) (c : D) (v : Value), cs[i]? = some c -> vs[i]? = some v -> VR F μ c v) : VR F μ (.fn f cs) (.func (.func f) #[] vs)
 | ifc (t : TypeId) (d : D) (v : Value) (h : VR F μ d v) : VR F μ (.ifc t d) (.iface t v)
 | b (k off b m : Nat) (h : μ k = some (some (b, m))) : VR F μ (.b k off) (.pointer (some ⟨b, off, none⟩))
 | bs (k off b m : Nat) (h : μ k = some (some (b, m))) : VR F μ (.bs k off) (.pointer (some ⟨b, off, none⟩))
 | p (k sz i off b m : Nat) (h : μ k = some (some (b, m))) : VR F μ (.p k sz i off) (.pointer (some ⟨b, i * sz + off, none⟩))
 | o (k sz n b m cap : Nat) (h : μ k = some (some (b, m))) (hc : n <= cap) (hm : cap * sz <= m) : VR F μ (.o k sz n) (.slice (some ⟨b, 0, none⟩) n cap)
 | oNil (k sz : Nat) (a : Option Addr) (h : μ k = some none) : VR F μ (.o k sz 0) (.slice a 0 0)
 | yv (k b m : Nat) (h : μ k = some (some (b, m))) : VR F μ (.yv k) (.func (.yield b) #[] #[])
 | mv (k b m : Nat) (h : μ k = some (some (b, m))) : VR F μ (.mv k) (.map (some b))
inductive OB where
 | mp (kn : Nat) (ents : List (List Int × D))
 | mpx (kn : Nat) (ents : List (List Int × D)) (bs : List Nat) (clock : Nat)
 | mi (k since : Nat) (seen : List Nat) (stepped : Nat)
 | lp (st : LoopState) (pend : Option Code) (env : List (Nat × D)) (nt : Nat) (params : List Nat) (assign body : Code)
 | gr (sz : Nat) (ents : List (Value × Option (List D)))
 | mk
inductive Blk where
 | box (d : D)
 | els (sz : Nat) (es : List D)
 | elo (sz : Nat) (es : List D)
 | ob (x : OB)
 | dead
def Blk.es : Blk -> Option (Nat × List D)
 | .box d => some (d.cells.length, [d])
 | .els sz es => some (sz, es)
 | .elo sz es => some (sz, es)
 | _ => none
def Blk.obj : Blk -> Option OB
 | .ob x => some x
 | _ => none
def Blk.live : Blk -> Bool
 | .dead => false
 | _ => true
def Z17 (H : List Blk) (k : Nat) : Option (Nat × List D) := (H[k]?).bind Blk.es
def Z13 (H : List Blk) (k : Nat) : Option OB := (H[k]?).bind Blk.obj
def Z20 (H : List Blk) (k : Nat) : Bool := ((H[k]?).map Blk.live).getD false
theorem Z15 {H : List Blk} {k : Nat} {y : Nat × List D} (h : Z17 H k = some y) : Z20 H k = true := by
 unfold Z17 at h; unfold Z20
 cases hx : H[k]? with
 | none => rw [hx] at h; simp at h
 | some x => rw [hx] at h; cases x <;> simp [Blk.es, Blk.live] at h ⊢
theorem Z2j {H : List Blk} {k : Nat} {y : OB} (h : Z13 H k = some y) : Z20 H k = true := by
 unfold Z13 at h; unfold Z20
 cases hx : H[k]? with
 | none => rw [hx] at h; simp at h
 | some x => rw [hx] at h; cases x <;> simp [Blk.obj, Blk.live] at h ⊢
theorem Zlo {H : List Blk} {k : Nat} (h : Z20 H k = true) : (∃ y, Z17 H k = some y) ∨ ∃ x, Z13 H k = some x := by
 unfold Z20 at h; unfold Z17 Z13
 cases hx : H[k]? with
 | none => rw [hx] at h; simp at h
 | some x => rw [hx] at h; cases x <;> simp [Blk.es, Blk.obj, Blk.live] at h ⊢
theorem Z6w {H : List Blk} {k : Nat} {y : OB} (h : Z13 H k = some y) : Z17 H k = none := by
 unfold Z13 at h; unfold Z17
 cases hx : H[k]? with
 | none => rfl
 | some x => rw [hx] at h; cases x <;> simp [Blk.obj, Blk.es] at h ⊢
def Z40 (μ : Mu) (k b : Nat) : Prop := (∃ m, μ k = some (some (b, m))) ∨ μ.inn k b
def Own (μ : Mu) (H : List Blk) (b : Nat) : Prop := ∃ k, Z20 H k = true /\ Z40 μ k b
mutual
def frD : D -> Bool
 | .agg cs => frL cs
 | .arr cs => frL cs
 | .tup cs => frL cs
 | .fn _ cs => frL cs
 | .ifc _ d => frD d
 | .b _ _ => false
 | .bs _ _ => false
 | .p _ _ _ _ => false
 | .o _ _ _ => false
 | .yv _ => false
 | .mv _ => false
 | _ => true
def frL : List D -> Bool
 | [] => true
 | d :: r => frD d && frL r
end
theorem Z30 : ∀ {l : List D}, frL l = true ↔ ∀ d ∈ l, frD d = true
 | [] => by simp [frL]
 | d :: r => by simp [frL, Z30 (l := r)]
structure FrL (l : List D) : Prop where
 out : ∀ d ∈ l, frD d = true
theorem FrL.nil : FrL [] := ⟨fun d h => by simp at h⟩
theorem FrL.app {a b : List D} (h : FrL a) (h' : FrL b) : FrL (a ++ b) := ⟨fun d hd => (List.mem_append.1 hd).elim (h.out d) (h'.out d)⟩
theorem FrL.set {a : List D} (h : FrL a) {i : Nat} {d : D} (hd : frD d = true) : FrL (a.set i d) := ⟨fun x hx => by
 rcases List.mem_or_eq_of_mem_set hx with hx | rfl
 ·exact h.out x hx
 ·exact hd⟩
theorem FrL.rep {n : Nat} {d : D} (hd : frD d = true) : FrL (List.replicate n d) := ⟨fun x hx => by rw [List.eq_of_mem_replicate hx]; exact hd⟩
def BFr (x : Blk) : Prop := ∀ sz es, x = .els sz es -> FrL es
def Z1l (F : Fz) (μ : Mu) (sz : Nat) (es : List D) (c : Array Value) : Prop :=
 ∀ (i : Nat) (e : D), es[i]? = some e -> e.cells.length = sz /\ ∀ (r : Nat) (d : D), e.cells[r]? = some d -> ∃ v, c[i * sz + r]? = some v /\ v.oneCell' = true /\ VR F μ d v
def Z1c : List (Nat × D) -> Nat -> Option D
 | [], _ => none
 | (t, d) :: e, n => if t = n then some d else Z1c e n
def OBR (F : Fz) (μ : Mu) (k : Nat) (w : World) : OB -> Prop
 | .mp kn ents => ∃ b es clock, μ k = some (some (b, 0)) /\ w.heap[b]? = some (.map es clock) /\ es.size = ents.length /\ (∀ (i : Nat) (e : MapEntry), es[i]? = some e -> e.born < clock) /\ (∀ (i j : Nat) (e e' : MapEntry), es[i]? = some e -> es[j]? = some e' -> e.born = e'.born -> i = j) /\
   (∀ (i : Nat) (e : MapEntry) (x : List Int × D), es[i]? = some e -> ents[i]? = some x -> e.key = Z1k (kn != 0) x.1 /\ x.1.length = Nat.max 1 kn /\ CR F x.2 e.val) /\ ∀ c, ¬ μ.inn k c
 | .mpx kn ents bs clock => ∃ b es, μ k = some (some (b, 0)) /\ w.heap[b]? = some (.map es clock) /\ es.size = ents.length /\ es.toList.map (·.born) = bs /\ (∀ c ∈ bs, c < clock) /\ bs.Nodup /\
   (∀ (i : Nat) (e : MapEntry) (x : List Int × D), es[i]? = some e -> ents[i]? = some x -> e.key = Z1k (kn != 0) x.1 /\ x.1.length = Nat.max 1 kn /\ CR F x.2 e.val) /\ ∀ c, ¬ μ.inn k c
 | .mi k' since seen stepped => ∃ b bm m, μ k = some (some (b, 0)) /\ μ k' = some (some (bm, m)) /\ w.heap[b]? = some (.mapIter (some bm) since seen.toArray stepped) /\ ∀ c, ¬ μ.inn k c
 | .lp st pend env nt params assign body => ∃ b r, μ k = some (some (b, 0)) /\ w.heap[b]? = some (.loop r) /\ r.state = st /\ r.pending = pend /\ r.params.toList = params /\ r.assign = assign /\ r.body = body /\ r.tmps.size = nt /\
   (∀ t d, Z1c env t = some d -> ∃ v, r.tmps[t]? = some v /\ VR F μ d v) /\ ∀ c, ¬ μ.inn k c
 | .gr sz ents => μ k = some none /\ ∃ loc : Nat -> Nat, (∀ (j : Nat) (e : Value) (row : List D), ents[j]? = some (e, some row) -> ∃ c t cap, e = .slice (some ⟨loc j, 0, none⟩) row.length cap /\ row.length <= cap /\ cap * sz <= c.size /\ w.heap[loc j]? = some (.cells c t (0, 0)) /\ Z1l F μ sz row c /\ FrL row /\ μ.inn k (loc j)) /\
   ∀ (i j : Nat) (e e' : Value) (row row' : List D), ents[i]? = some (e, some row) -> ents[j]? = some (e', some row') -> loc i = loc j -> i = j
 | .mk => μ k = some none /\ ∀ c, μ.inn k c -> w.heap[c]? = some (.deferred (some []))
@[simp] def OB.nv : OB -> Option (Option (Nat × Nat)) -> Prop
 | .gr _ _, _ => True
 | _, y => y ≠ none
structure HR (F : Fz) (μ : Mu) (H : List Blk) (w : World) : Prop where
 dom : ∀ k, H.length <= k -> μ k = none
 row : ∀ k sz es, Z17 H k = some (sz, es) -> μ k ≠ none -> (μ k = some none /\ es = []) ∨
  ∃ b m c t, μ k = some (some (b, m)) /\ w.heap[b]? = some (.cells c t (0, 0)) /\ c.size = m /\ es.length * sz <= m /\ Z1l F μ sz es c
 plain : ∀ k y, Z17 H k = some y -> ∀ b, ¬ μ.inn k b
 obj : ∀ k x, Z13 H k = some x -> x.nv (μ k) -> OBR F μ k w x
 non : ∀ k, μ k = none -> ∀ b, ¬ μ.inn k b
 inj : ∀ k k' b, Z20 H k = true -> Z20 H k' = true -> Z40 μ k b -> Z40 μ k' b -> k = k'
 lt : ∀ b, Own μ H b -> b < w.heap.size
 frz : ∀ b o v, F b o = some v -> w.cell? ⟨b, o, none⟩ = some v /\ ¬ Own μ H b
 fr : ∀ (k : Nat) (x : Blk), H[k]? = some x -> BFr x
structure Post (F : Fz) (μ : Mu) (H : List Blk) (w : World) (F' : Fz) (μ' : Mu) (H' : List Blk) (w' : World) : Prop where
 mono : ∀ b o v, F b o = some v -> F' b o = some v
 back : ∀ b o v, F' b o = some v -> F b o = some v ∨ Own μ H b ∨ w.heap.size <= b
 size : w.heap.size <= w'.heap.size
 tape : w'.tape = w.tape
 os : w'.os = w.os
 output : w'.output = w.output
 keep : ∀ b, b < w.heap.size -> ¬ Own μ H b -> w'.heap[b]? = w.heap[b]? /\ ¬ Own μ' H' b
theorem CR.mono {F F' : Fz} (hF : ∀ b o v, F b o = some v -> F' b o = some v) {d : D} {v : Value} (h : CR F d v) : CR F' d v := by
 induction h with
 | v x ho => exact .v x ho
 | any x => exact .any x
 | agg cs vs hl _ ho ih => exact .agg cs vs hl ih ho
 | arr cs vs hl _ ho ih => exact .arr cs vs hl ih ho
 | tup cs vs hl _ ih => exact .tup cs vs hl ih
 | slE sz a cap => exact .slE sz a cap
 | z0 a => exact .z0 a
 | sl sz es b o cap val hc hz hf _ ih => exact .sl sz es b o cap val hc hz (fun i e r c h1 h2 => ⟨hF _ _ _ (hf i e r c h1 h2).1, (hf i e r c h1 h2).2⟩) ih
 | ip sz es b o i off val hz hf _ ih => exact .ip sz es b o i off val hz (fun i e r c h1 h2 => ⟨hF _ _ _ (hf i e r c h1 h2).1, (hf i e r c h1 h2).2⟩) ih
 | cb d b o off val hf _ ih => exact .cb d b o off val (fun r c h1 => ⟨hF _ _ _ (hf r c h1).1, (hf r c h1).2⟩) ih
 | fn f cs vs hl _ ih => exact .fn f cs vs hl ih
 | ifc t d v _ ih => exact .ifc t d v ih
theorem VR.mono {F F' : Fz} {μ μ' : Mu} (hF : ∀ b o v, F b o = some v -> F' b o = some v) (hμ : ∀ k x, μ k = some x -> μ' k = some x) {d : D} {v : Value} (h : VR F μ d v) : VR F' μ' d v := by
 induction h with
 | cl d v h => exact .cl d v (h.mono hF)
 | agg cs vs hl _ ho ih => exact .agg cs vs hl ih ho
 | arr cs vs hl _ ho ih => exact .arr cs vs hl ih ho
 | tup cs vs hl _ ih => exact .tup cs vs hl ih
 | fn f cs vs hl _ ih => exact .fn f cs vs hl ih
 | ifc t d v _ ih => exact .ifc t d v ih
 | b k off b m h => exact .b k off b m (hμ _ _ h)
 | bs k off b m h => exact .bs k off b m (hμ _ _ h)
 | p k sz i off b m h => exact .p k sz i off b m (hμ _ _ h)
 | o k sz n b m cap h hc hm => exact .o k sz n b m cap (hμ _ _ h) hc hm
 | oNil k sz a h => exact .oNil k sz a (hμ _ _ h)
 | yv k b m h => exact .yv k b m (hμ _ _ h)
 | mv k b m h => exact .mv k b m (hμ _ _ h)
theorem Z1l.mono {F F' : Fz} {μ μ' : Mu} (hF : ∀ b o v, F b o = some v -> F' b o = some v) (hμ : ∀ k x, μ k = some x -> μ' k = some x) {sz : Nat} {es : List D} {c : Array Value}
  (h : Z1l F μ sz es c) : Z1l F' μ' sz es c := fun i e he =>
 ⟨(h i e he).1, fun r d hd => let ⟨v, h1, h0, h2⟩ := (h i e he).2 r d hd; ⟨v, h1, h0, h2.mono hF hμ⟩⟩
theorem Post.refl (F : Fz) (μ : Mu) (H : List Blk) (w : World) : Post F μ H w F μ H w :=
 ⟨fun _ _ _ h => h, fun _ _ _ h => .inl h, Nat.le_refl _, rfl, rfl, rfl, fun _ _ h => ⟨rfl, h⟩⟩
theorem Post.trans {F F' F'' : Fz} {μ μ' μ'' : Mu} {H H' H'' : List Blk} {w w' w'' : World} (h : Post F μ H w F' μ' H' w') (h' : Post F' μ' H' w' F'' μ'' H'' w'') : Post F μ H w F'' μ'' H'' w'' where
 mono := fun b o v e => h'.mono _ _ _ (h.mono _ _ _ e)
 back := fun b o v e => by
  rcases h'.back b o v e with e | e | e
  ·exact h.back b o v e
  ·by_cases hb : b < w.heap.size
   ·by_cases ho : Own μ H b
    ·exact .inr (.inl ho)
    ·exact absurd e (h.keep b hb ho).2
   ·exact .inr (.inr (by omega))
  ·exact .inr (.inr (Nat.le_trans h.size e))
 size := Nat.le_trans h.size h'.size
 tape := h'.tape.trans h.tape
 os := h'.os.trans h.os
 output := h'.output.trans h.output
 keep := fun b hb ho => by
  obtain ⟨e1, o1⟩ := h.keep b hb ho;obtain ⟨e2, o2⟩ := h'.keep b (Nat.lt_of_lt_of_le hb h.size) o1;exact ⟨e2.trans e1, o2⟩
inductive AD where
 | mk (k : Nat)
 | fn (f : FuncId) (caps as : List D)
def ADR (F : Fz) (μ : Mu) (H : List Blk) : List AD -> List Deferred -> Prop
 | [], ds => ds = []
 | .mk k :: r, ds => ∃ (cs : List Nat) (ds' : List Deferred), ds = (cs.map fun c => { target := .collected c, args := #[] }) ++ ds' /\ cs.Nodup /\ Z13 H k = some .mk /\ μ k = some none /\ (∀ c ∈ cs, μ.inn k c) /\ ADR F μ H r ds'
 | .fn f caps as :: r, ds => ∃ (cv av : Array Value) (ds' : List Deferred), ds = { target := .fn (.func f) cv, args := av } :: ds' /\ (caps.length = cv.size /\ ∀ (i : Nat) (c : D) (v : Value), caps[i]? = some c -> cv[i]? = some v -> VR F μ c v) /\
   (as.length = av.size /\ ∀ (i : Nat) (c : D) (v : Value), as[i]? = some c -> av[i]? = some v -> VR F μ c v) /\ ADR F μ H r ds'
theorem ADR.mono {F F' : Fz} {μ μ' : Mu} {H H' : List Blk} (hF : ∀ b o v, F b o = some v -> F' b o = some v) (hμ : ∀ k x, μ k = some x -> μ' k = some x) (hk : ∀ k, Z13 H k = some .mk -> Z13 H' k = some .mk /\ ∀ c, μ.inn k c -> μ'.inn k c) :
  ∀ {l : List AD} {ds : List Deferred}, ADR F μ H l ds -> ADR F' μ' H' l ds
 | [], _, h => h
 | .mk k :: r, _, ⟨cs, ds', h1, h2, h3, hn, h4, h5⟩ => ⟨cs, ds', h1, h2, (hk k h3).1, hμ _ _ hn, fun c hc => (hk k h3).2 c (h4 c hc), ADR.mono hF hμ hk h5⟩
 | .fn f caps as :: r, _, ⟨cv, av, ds', h1, h2, h3, h4⟩ => ⟨cv, av, ds', h1, ⟨h2.1, fun i c v a b => (h2.2 i c v a b).mono hF hμ⟩, ⟨h3.1, fun i c v a b => (h3.2 i c v a b).mono hF hμ⟩, ADR.mono hF hμ hk h4⟩
structure St where
 env : List (Nat × D)
 H : List Blk
 nt : Nat
 dfs : List AD
structure ER (F : Fz) (μ : Mu) (s : St) (a : Act) : Prop where
 env : ∀ t d, Z1c s.env t = some d -> ∃ v, a.tmps[t]? = some v /\ VR F μ d v
 nt : a.tmps.size = s.nt
 dfs : ADR F μ s.H s.dfs a.defers
structure RL (m : Nat) (F : Fz) (μ : Mu) (s : St) (a : Act) (w : World) : Prop where
 hr : HR F μ s.H w
 er : ER F μ s a
 len : m <= s.H.length
def Mks (μ : Mu) (H : List Blk) (μ' : Mu) (H' : List Blk) : Prop := ∀ k, Z13 H k = some .mk -> Z13 H' k = some .mk /\ ∀ c, μ.inn k c -> μ'.inn k c
theorem Mks.refl (μ : Mu) (H : List Blk) : Mks μ H μ H := fun _ h => ⟨h, fun _ h => h⟩
theorem Mks.trans {μ μ' μ'' : Mu} {H H' H'' : List Blk} (h : Mks μ H μ' H') (h' : Mks μ' H' μ'' H'') : Mks μ H μ'' H'' := fun k hk => ⟨(h' k (h k hk).1).1, fun c hc => (h' k (h k hk).1).2 c ((h k hk).2 c hc)⟩
structure Kp (m : Nat) (μ : Mu) (H : List Blk) (μ' : Mu) (H' : List Blk) : Prop where
 same : ∀ i, i < m -> μ' i = μ i
 mks : ∀ i, i < m -> Z13 H i = some .mk -> Z13 H' i = some .mk /\ ∀ c, μ.inn i c -> μ'.inn i c
theorem Kp.refl (m : Nat) (μ : Mu) (H : List Blk) : Kp m μ H μ H := ⟨fun _ _ => rfl, fun _ _ h => ⟨h, fun _ h => h⟩⟩
theorem Kp.trans {m : Nat} {μ μ' μ'' : Mu} {H H' H'' : List Blk} (h : Kp m μ H μ' H') (h' : Kp m μ' H' μ'' H'') : Kp m μ H μ'' H'' :=
 ⟨fun i hi => (h'.same i hi).trans (h.same i hi), fun i hi hk => ⟨(h'.mks i hi (h.mks i hi hk).1).1, fun c hc => (h'.mks i hi (h.mks i hi hk).1).2 c ((h.mks i hi hk).2 c hc)⟩⟩
theorem Kp.ob {m : Nat} {μ : Mu} {H H' : List Blk} (h : ∀ i, Z13 H i = some .mk -> Z13 H' i = some .mk) : Kp m μ H μ H' := ⟨fun _ _ => rfl, fun i _ hk => ⟨h i hk, fun _ h => h⟩⟩
end Go.Abs

namespace Go.Abs
open Go
abbrev Fc (r : Option Nat) : Fence := { fn := fun _ => True, depth := none, alive := false, round := r }
theorem Zu5 (r : Option Nat) (n : Nat) : (Fc r).room n := fun _ h => by cases h
inductive AX where
 | normal
 | exit (id : Nat)
 | ret
 | goto (l : Nat)
 | pan (d : D)
def XR (F : Fz) (μ : Mu) : Exit -> AX -> Prop
 | .normal, .normal => True
 | .exit i, .exit j => i = j
 | .ret, .ret => True
 | .goto i, .goto j => i = j
 | .panic ch, .pan d => ∃ v, ch = [{ v := v, recovered := false }] /\ VR F μ d v
 | _, _ => False
def Z4f (F : Fz) (μ : Mu) (H : List Blk) (w : World) (m : Nat) (Q : AX -> St -> Prop) (e : Exit) (a' : Act) (w' : World) : Prop :=
 ∃ F' μ' s' x, Post F μ H w F' μ' s'.H w' /\ Kp m μ H μ' s'.H /\ RL m F' μ' s' a' w' /\ XR F' μ' e x /\ Q x s'
structure WpA (P : Program) (r : Option Nat) (m : Nat) (c : Code) (Q : AX -> St -> Prop) (s : St) : Prop where
 out : ∀ F μ a w, RL m F μ s a w -> c.wpIn (Fc r) 0 P (Z4f F μ s.H w m Q) a w
section
variable {P : Program} {r : Option Nat} {m : Nat} {Q Q' : AX -> St -> Prop} {s : St}
theorem Z4f.mono {F : Fz} {μ : Mu} {H : List Blk} {w : World} {e : Exit} {a' : Act} {w' : World} (h : Z4f F μ H w m Q e a' w') (hq : ∀ x s, Q x s -> Q' x s) : Z4f F μ H w m Q' e a' w' := by
 obtain ⟨F', μ', s', x, h1, h2, h3, h4, h5⟩ := h;exact ⟨F', μ', s', x, h1, h2, h3, h4, hq _ _ h5⟩
theorem Z4f.trans {F F' : Fz} {μ μ' : Mu} {H H' : List Blk} {w w' : World} {e : Exit} {a'' : Act} {w'' : World} (h0 : Post F μ H w F' μ' H' w') (hm : Kp m μ H μ' H')
  (h : Z4f F' μ' H' w' m Q e a'' w'') : Z4f F μ H w m Q e a'' w'' := by
 obtain ⟨F'', μ'', s', x, h1, h2, h3, h4, h5⟩ := h;exact ⟨F'', μ'', s', x, h0.trans h1, hm.trans h2, h3, h4, h5⟩
theorem Z4f.here {F : Fz} {μ : Mu} {w : World} {e : Exit} {a : Act} {x : AX} (h1 : RL m F μ s a w) (h3 : XR F μ e x) (h4 : Q x s) : Z4f F μ s.H w m Q e a w :=
 ⟨F, μ, s, x, Post.refl _ _ _ _, .refl _ _ _, h1, h3, h4⟩
theorem Z94 {c : Code} (h : WpA P r m c Q s) (hq : ∀ x s, Q x s -> Q' x s) : WpA P r m c Q' s :=
 ⟨fun F μ a w h1 => wpIn_mono (h.out F μ a w h1) fun _ _ _ h => h.mono hq⟩
def Zb1 (K : St -> Prop) (Q : AX -> St -> Prop) : AX -> St -> Prop
 | .normal, s => K s
 | x, s => Q x s
def Zi3 (id : Nat) (Q : AX -> St -> Prop) : AX -> St -> Prop
 | .exit id', s => if id' = id then Q .normal s else Q (.exit id') s
 | x, s => Q x s
theorem Z4f.thenA {F : Fz} {μ : Mu} {H : List Blk} {w : World} {K : St -> Prop} {next : Act -> World -> Prop} {e : Exit} {a : Act} {w' : World}
  (h : Z4f F μ H w m (Zb1 K Q) e a w') (hn : ∀ F' μ' s', Post F μ H w F' μ' s'.H w' -> Kp m μ H μ' s'.H -> RL m F' μ' s' a w' -> K s' -> next a w') :
  Exit.then next (Z4f F μ H w m Q) e a w' := by
 obtain ⟨F', μ', s', x, h1, h2, h3, h5, h6⟩ := h
 cases e <;> cases x <;> try exact h5.elim
 ·exact hn F' μ' s' h1 h2 h3 h6
 all_goals exact ⟨F', μ', s', _, h1, h2, h3, h5, h6⟩
theorem Znq {x y : Code} (h : WpA P r m x (Zb1 (WpA P r m y Q) Q) s) : WpA P r m (.seq x y) Q s :=
 ⟨fun F μ a w h1 => wpIn_seq (wpIn_mono (h.out F μ a w h1) fun _ _ _ hp => hp.thenA fun F' μ' _ p1 p2 p3 p5 =>
  wpIn_mono (p5.out F' μ' _ _ p3) fun _ _ _ hq => hq.trans p1 p2)⟩
theorem Zje (h : Q .normal s) : WpA P r m .skip Q s := ⟨fun _ _ _ _ h1 => wpIn_skip (.here h1 (x := .normal) trivial h)⟩
theorem Zgi {l : Nat} (h : Q .normal s) : WpA P r m (.label l) Q s := ⟨fun _ _ _ _ h1 => wpIn_label (.here h1 (x := .normal) trivial h)⟩
theorem Znr (h : Q .ret s) : WpA P r m .ret Q s := ⟨fun _ _ _ _ h1 => wpIn_ret (.here h1 (x := .ret) trivial h)⟩
theorem Zjf {id : Nat} (h : Q (.exit id) s) : WpA P r m (.exit id) Q s := ⟨fun _ _ _ _ h1 => wpIn_exit (.here h1 (x := .exit id) rfl h)⟩
theorem Zgj {id : Nat} {c : Code} (h : WpA P r m c (Zi3 id Q) s) : WpA P r m (.block id c) Q s :=
 ⟨fun F μ a w h1 => wpIn_block (wpIn_mono (h.out F μ a w h1) fun e a' w' hp => by
  obtain ⟨F', μ', s', x, p1, p2, p3, p5, p6⟩ := hp
  cases e <;> cases x <;> try exact p5.elim
  case exit.exit i j =>
   obtain rfl : i = j := p5
   simp only [Exit.inBlock]
   simp only [Zi3] at p6
   split
   ·rename_i hi; rw [if_pos hi] at p6; exact ⟨F', μ', s', .normal, p1, p2, p3, trivial, p6⟩
   ·rename_i hi; rw [if_neg hi] at p6; exact ⟨F', μ', s', .exit i, p1, p2, p3, rfl, p6⟩
  all_goals exact ⟨F', μ', s', _, p1, p2, p3, p5, p6⟩)⟩
def ofV : Value -> D
 | .agg cs => if cs.all (·.oneCell') then .agg (cs.toList.map .v) else .any
 | .tuple _ => .any
 | x => .v x
def evo (env : List (Nat × D)) : Operand -> Option D
 | .tmp t => Z1c env t
 | .const v => some (ofV v)
 | .global g => some (.v (.pointer (some ⟨g, 0, none⟩)))
 | .func f => some (.fn f [])
theorem CR.ofV {F : Fz} (v : Value) : CR F (ofV v) v := by
 cases v
 case agg cs =>
  show CR F (if cs.all (·.oneCell') then D.agg (cs.toList.map D.v) else D.any) (.agg cs)
  split
  ·rename_i hall
   have hone : ∀ (i : Nat) (v : Value), cs[i]? = some v -> v.oneCell' = true := fun i v hv => by
    obtain ⟨hi, rfl⟩ := Array.getElem?_eq_some_iff.1 hv;exact (Array.all_eq_true.1 hall) i hi
   refine .agg _ _ (by simp) (fun i c v h1 h2 => ?_) hone;simp only [List.getElem?_map, Option.map_eq_some_iff] at h1;obtain ⟨x, hx, rfl⟩ := h1;rw [Array.getElem?_toList] at hx;obtain rfl := Option.some.inj (hx.symm.trans h2);exact .v _ (hone i _ h2)
  ·exact .any _
 case tuple cs => exact .any _
 all_goals exact .v _ rfl
theorem ER.evo {F : Fz} {μ : Mu} {a : Act} (h : ER F μ s a) {x : Operand} {d : D} (hd : evo s.env x = some d) : VR F μ d (a.eval x) := by
 cases x with
 | tmp t =>
  obtain ⟨v, h1, h2⟩ := h.env t d hd;simp only [Act.eval, Array.getD_eq_getD_getElem?, h1, Option.getD_some];exact h2
 | const v => obtain rfl := Option.some.inj hd; exact .cl _ _ (CR.ofV v)
 | global g => obtain rfl := Option.some.inj hd; exact .cl _ _ (.v _ rfl)
 | func f => obtain rfl := Option.some.inj hd; exact .cl _ _ (.fn f [] #[] rfl (fun i c v h => by simp at h))
theorem VR.bool {F : Fz} {μ : Mu} {t : Bool} {v : Value} (h : VR F μ (.v (.bool t)) v) : v = .bool t := by
 cases h with | cl _ _ h => cases h; rfl
theorem VR.v_inv {F : Fz} {μ : Mu} {x v : Value} (h : VR F μ (.v x) v) : v = x := by
 cases h with | cl _ _ h => cases h; rfl
theorem Zjg {c : Operand} {x y : Code} {t : Bool} (hc : evo s.env c = some (.v (.bool t))) (ht : t = true -> WpA P r m x Q s) (hf : t = false -> WpA P r m y Q s) : WpA P r m (.cond c x y) Q s :=
 ⟨fun F μ a w h1 => wpIn_cond_split (h1.er.evo hc).bool (fun h => (ht h).out F μ a w h1) (fun h => (hf h).out F μ a w h1)⟩
theorem least_nat {p : Nat -> Prop} (h : ∃ n, p n) : ∃ n, p n /\ ∀ k, p k -> n <= k := by
 obtain ⟨n, hn⟩ := h
 induction n using Nat.strongRecOn with
 | _ n ih =>
  by_cases hk : ∃ k, k < n /\ p k
  ·obtain ⟨k, hk, hp⟩ := hk; exact ih k hk hp
  ·exact ⟨n, hn, fun k hp => Nat.le_of_not_lt fun hlt => hk ⟨k, hlt, hp⟩⟩
theorem Zjh {c : Code} (I : St -> Prop) (ms : St -> Nat) (h0 : I s)
  (round : ∀ s, I s -> WpA P r m c (Zb1 (fun s' => I s' /\ ms s' < ms s) Q) s) : WpA P r m (.loop c) Q s := by
 refine ⟨fun F μ a w h1 => ?_⟩
 let Inv : Nat -> Act -> World -> Prop := fun n a' w' => ∃ F' μ' s', Post F μ s.H w F' μ' s'.H w' /\ Kp m μ s.H μ' s'.H /\ RL m F' μ' s' a' w' /\ I s' /\ ms s' = n
 have hch : ∀ a' w', (∃ n, Inv n a' w') -> ∃ n, Inv n a' w' /\ ∀ k, Inv k a' w' -> n <= k := fun a' w' h => least_nat h
 let μm : Act -> World -> Nat := fun a' w' => Classical.epsilon fun n => Inv n a' w' /\ ∀ k, Inv k a' w' -> n <= k
 have hμ : ∀ a' w', (∃ n, Inv n a' w') -> Inv (μm a' w') a' w' /\ ∀ k, Inv k a' w' -> μm a' w' <= k := fun a' w' h => Classical.epsilon_spec (hch a' w' h);refine wpIn_loop (fun a' w' => ∃ n, Inv n a' w') μm ⟨_, F, μ, s, Post.refl _ _ _ _, .refl _ _ _, h1, h0, rfl⟩ fun a' w' hI => ?_;obtain ⟨⟨F', μ', s', p1, p2, p3, p5, p6⟩, -⟩ := hμ a' w' hI;refine wpIn_mono ((round s' p5).out F' μ' a' w' p3) fun e a2 w2 hp => ?_;have := hp.trans p1 p2;refine this.thenA fun F2 μ2 s2 q1 q2 q3 q5 => ?_;have hi2 : Inv (ms s2) a2 w2 := ⟨F2, μ2, s2, q1, q2, q3, q5.1, rfl⟩;exact ⟨⟨_, hi2⟩, by have := (hμ a2 w2 ⟨_, hi2⟩).2 _ hi2; have := q5.2; omega⟩
end
end Go.Abs

namespace Go.Abs
open Go
def Z4l (H : List Blk) (k : Nat) (x : Blk) : List Blk := if k < H.length then H.set k x else H ++ [x]
def Z4v (μ : Mu) (k : Nat) (x : Option (Nat × Nat)) : Mu := ⟨fun j => if j = k then some x else μ j, μ.inn⟩
theorem Z6h (μ : Mu) (k : Nat) (x : Option (Nat × Nat)) : Z4v μ k x k = some x := by show (if k = k then some x else μ k) = some x; rw [if_pos rfl]
theorem Z2k {μ : Mu} {k j : Nat} (x : Option (Nat × Nat)) (h : j ≠ k) : Z4v μ k x j = μ j := by show (if j = k then some x else μ j) = μ j; rw [if_neg h]
theorem Z2m {H : List Blk} {k : Nat} (x : Blk) (hk : k <= H.length) (j : Nat) : (Z4l H k x)[j]? = if j = k then some x else H[j]? := by
 unfold Z4l
 split
 ·rename_i h; rw [List.getElem?_set]
  by_cases hj : k = j
  ·subst hj; simp [h]
  ·rw [if_neg hj, if_neg (fun e => hj e.symm)]
 ·rename_i h
  obtain rfl : k = H.length := by omega
  by_cases hj : j = H.length
  ·subst hj; simp
  ·rw [if_neg hj]
   by_cases hlt : j < H.length
   ·rw [List.getElem?_append_left hlt]
   ·rw [List.getElem?_append_right (by omega), List.getElem?_eq_none (by omega : H.length <= j)];have : j - H.length = (j - H.length - 1) + 1 := by omega
    rw [this]; simp
theorem Z7b {H : List Blk} {k : Nat} (x : Blk) : H.length <= (Z4l H k x).length /\ (Z4l H k x).length <= max H.length (H.length + 1) := by
 unfold Z4l; split <;> simp <;> omega
theorem Zbz {H : List Blk} {k : Nat} (x : Blk) (hk : k <= H.length) (j : Nat) : Z17 (Z4l H k x) j = if j = k then x.es else Z17 H j := by
 unfold Z17; rw [Z2m x hk]; split <;> rfl
theorem Zu6 {H : List Blk} {k : Nat} (x : Blk) (hk : k < H.length) (j : Nat) : Z17 (H.set k x) j = if j = k then x.es else Z17 H j := by
 have := Zbz x (Nat.le_of_lt hk) j
 rwa [Z4l, if_pos hk] at this
theorem Z7k {H : List Blk} {k : Nat} {y : Nat × List D} (h : Z17 H k = some y) : k < H.length := by
 unfold Z17 at h;obtain ⟨x, hx, -⟩ := Option.bind_eq_some_iff.1 h;exact (List.getElem?_eq_some_iff.1 hx).1
theorem Zep {H : List Blk} {k : Nat} (x : Blk) (hk : k <= H.length) (j : Nat) : Z13 (Z4l H k x) j = if j = k then x.obj else Z13 H j := by
 unfold Z13; rw [Z2m x hk]; split <;> rfl
theorem Zi4 {H : List Blk} {k : Nat} (x : Blk) (h : k <= H.length) : k < (Z4l H k x).length := by
 unfold Z4l; split
 ·simpa
 ·simp; omega
theorem Z1s {H : List Blk} {k : Nat} {x : Blk} (h : H[k]? = some x) : Z17 H k = x.es := by unfold Z17; rw [h]; rfl
theorem Z19 {H : List Blk} {k : Nat} {x : Blk} (h : H[k]? = some x) : Z13 H k = x.obj := by unfold Z13; rw [h]; rfl
theorem Z6x {H : List Blk} {k : Nat} {x : Blk} (h : H[k]? = some x) : Z20 H k = x.live := by unfold Z20; rw [h]; rfl
theorem HR.congr {F : Fz} {μ : Mu} {H : List Blk} {w w' : World} (h : HR F μ H w) (e : w'.heap = w.heap) : HR F μ H w' :=
 ⟨h.dom, fun k sz es hk => by rw [e]; exact h.row k sz es hk, h.plain, fun k x hx hn => by
  have := h.obj k x hx hn
  cases x <;> simpa only [OBR, e] using this, h.non, h.inj, fun b hb => by rw [e]; exact h.lt b hb, fun b o v hv => ⟨by rw [World.cell?_of_block (w := w) (by rw [e])]; exact (h.frz b o v hv).1, (h.frz b o v hv).2⟩, h.fr⟩
theorem Post.congr {F F' : Fz} {μ μ' : Mu} {H H' : List Blk} {w w' w2 : World} (h : Post F μ H w F' μ' H' w') (e : w2.heap = w'.heap) (e1 : w2.tape = w'.tape) (e2 : w2.os = w'.os) (e3 : w2.output = w'.output) : Post F μ H w F' μ' H' w2 :=
 ⟨h.mono, h.back, by rw [e]; exact h.size, e1.trans h.tape, e2.trans h.os, e3.trans h.output, fun b hb ho => by rw [e]; exact h.keep b hb ho⟩
theorem HR.block_lt {F : Fz} {μ : Mu} {H : List Blk} {w : World} (h : HR F μ H w) {b : Nat} (ho : Own μ H b) : b < w.heap.size := h.lt b ho
theorem OBR.frame {F F' : Fz} {μ μ' : Mu} {k : Nat} {w w' : World} {x : OB} (h : OBR F μ k w x) (hF : ∀ b o v, F b o = some v -> F' b o = some v) (hμ : ∀ j y, μ j = some y -> μ' j = some y) (hi : ∀ b, μ'.inn k b ↔ μ.inn k b)
  (hw : ∀ b, Z40 μ k b -> w'.heap[b]? = w.heap[b]?) : OBR F' μ' k w' x := by
 have hn : (∀ c, ¬ μ.inn k c) -> ∀ c, ¬ μ'.inn k c := fun h c hc => h c ((hi c).1 hc)
 cases x with
 | mp kn ents =>
  obtain ⟨b, es, clock, h1, h2, h3, h4, h5, h6, h7⟩ := h;exact ⟨b, es, clock, hμ _ _ h1, by rw [hw b (.inl ⟨_, h1⟩)]; exact h2, h3, h4, h5, fun i e x a c => ⟨(h6 i e x a c).1, (h6 i e x a c).2.1, (h6 i e x a c).2.2.mono hF⟩, hn h7⟩
 | mpx kn ents bs clock =>
  obtain ⟨b, es, h1, h2, h3, h4, h5, h5', h6, h7⟩ := h;exact ⟨b, es, hμ _ _ h1, by rw [hw b (.inl ⟨_, h1⟩)]; exact h2, h3, h4, h5, h5', fun i e x a c => ⟨(h6 i e x a c).1, (h6 i e x a c).2.1, (h6 i e x a c).2.2.mono hF⟩, hn h7⟩
 | mi k' since seen stepped =>
  obtain ⟨b, bm, m, h1, h2, h3, h7⟩ := h;exact ⟨b, bm, m, hμ _ _ h1, hμ _ _ h2, by rw [hw b (.inl ⟨_, h1⟩)]; exact h3, hn h7⟩
 | lp st pend env nt params assign body =>
  obtain ⟨b, r, h1, h2, h3, h4, h5, h6, h8, h9, h10, h7⟩ := h;exact ⟨b, r, hμ _ _ h1, by rw [hw b (.inl ⟨_, h1⟩)]; exact h2, h3, h4, h5, h6, h8, h9, fun t d ht => let ⟨v, g1, g2⟩ := h10 t d ht; ⟨v, g1, g2.mono hF hμ⟩, hn h7⟩
 | gr sz ents =>
  obtain ⟨h1, loc, h2, h3⟩ := h;refine ⟨hμ _ _ h1, loc, fun j e row he => ?_, h3⟩;obtain ⟨c, t, cap, g1, g2, g3, g4, g5, g6, g7⟩ := h2 j e row he;exact ⟨c, t, cap, g1, g2, g3, by rw [hw _ (.inr g7)]; exact g4, g5.mono hF hμ, g6, (hi _).2 g7⟩
 | mk =>
  exact ⟨hμ _ _ h.1, fun c hc => by rw [hw c (.inr ((hi c).1 hc))]; exact h.2 c ((hi c).1 hc)⟩
theorem Z5e {F : Fz} {μ μ' : Mu} {H H' : List Blk} {w w' : World} (C : Nat -> Prop) (h : HR F μ H w) (hl : H.length <= H'.length) (hH : ∀ j, ¬ C j -> H'[j]? = H[j]?) (hμ : ∀ j, ¬ C j -> μ' j = μ j) (hi : ∀ j b, ¬ C j -> (μ'.inn j b ↔ μ.inn j b))
  (hup : ∀ j, C j -> ∀ y, μ j = some y -> μ' j = some y) (hsz : w.heap.size <= w'.heap.size) (e1 : w'.tape = w.tape) (e2 : w'.os = w.os) (e3 : w'.output = w.output)
  (hheap : ∀ b, b < w.heap.size -> (∀ k, C k -> Z20 H k = true -> ¬ Z40 μ k b) -> w'.heap[b]? = w.heap[b]?)
  (hfoot : ∀ k b, C k -> Z20 H' k = true -> Z40 μ' k b -> (∃ j, C j /\ Z20 H j = true /\ Z40 μ j b) ∨ (w.heap.size <= b /\ b < w'.heap.size))
  (hinj : ∀ k k' b, C k -> C k' -> Z20 H' k = true -> Z20 H' k' = true -> Z40 μ' k b -> Z40 μ' k' b -> k = k')
  (hdom : ∀ k, C k -> H'.length <= k -> μ' k = none)
  (hrow : (∀ j y, μ j = some y -> μ' j = some y) -> ∀ k sz es, C k -> Z17 H' k = some (sz, es) -> μ' k ≠ none -> (μ' k = some none /\ es = []) ∨ ∃ b m c t, μ' k = some (some (b, m)) /\ w'.heap[b]? = some (.cells c t (0, 0)) /\ c.size = m /\ es.length * sz <= m /\ Z1l F μ' sz es c)
  (hplain : ∀ k y, C k -> Z17 H' k = some y -> ∀ b, ¬ μ'.inn k b)
  (hobj : (∀ j y, μ j = some y -> μ' j = some y) -> ∀ k x, C k -> Z13 H' k = some x -> x.nv (μ' k) -> OBR F μ' k w' x)
  (hnon : ∀ k, C k -> μ' k = none -> ∀ b, ¬ μ'.inn k b) (hbf : ∀ k x, C k -> H'[k]? = some x -> BFr x) :
  HR F μ' H' w' /\ Post F μ H w F μ' H' w' /\ ∀ j y, μ j = some y -> μ' j = some y := by
 have hmono : ∀ j y, μ j = some y -> μ' j = some y := fun j y hj => by
  by_cases hc : C j
  ·exact hup j hc y hj
  ·rw [hμ j hc]; exact hj
 have hb : ∀ j, ¬ C j -> Z17 H' j = Z17 H j := fun j hj => by unfold Z17; rw [hH j hj]
 have ho : ∀ j, ¬ C j -> Z13 H' j = Z13 H j := fun j hj => by unfold Z13; rw [hH j hj]
 have hv : ∀ j, ¬ C j -> Z20 H' j = Z20 H j := fun j hj => by unfold Z20; rw [hH j hj]
 have hf : ∀ j b, ¬ C j -> (Z40 μ' j b ↔ Z40 μ j b) := fun j b hj => by unfold Z40; rw [hμ j hj, hi j b hj]
 have hpo : ∀ j b, ¬ C j -> Z20 H j = true -> Z40 μ j b -> b < w.heap.size /\ w'.heap[b]? = w.heap[b]? := fun j b hj hl hfo => by
  have hlt := h.lt b ⟨j, hl, hfo⟩;exact ⟨hlt, hheap b hlt fun k hc hk hfk => hj (h.inj k j b hk hl hfk hfo ▸ hc)⟩
 have hown : ∀ b, Own μ' H' b -> Own μ H b ∨ (w.heap.size <= b /\ b < w'.heap.size) := fun b ⟨j, g1, g2⟩ => by
  by_cases hc : C j
  ·rcases hfoot j b hc g1 g2 with ⟨j', -, g3, g4⟩ | g
   ·exact .inl ⟨j', g3, g4⟩
   ·exact .inr g
  ·exact .inl ⟨j, by rw [<- hv j hc]; exact g1, (hf j b hc).1 g2⟩
 refine ⟨⟨fun k hk => ?_, fun k sz es hk hne => ?_, fun k y hk => ?_, fun k x hk hne => ?_, fun k hk => ?_, fun k k' b hk hk' g g' => ?_, fun b hb => ?_, fun b o v hv => ?_, fun k x hk => ?_⟩,
  ⟨fun _ _ _ e => e, fun _ _ _ e => .inl e, hsz, e1, e2, e3, fun b hb ho => ⟨hheap b hb fun k _ hk hfo => ho ⟨k, hk, hfo⟩, fun ho' => ?_⟩⟩, hmono⟩
 ·by_cases hc : C k
  ·exact hdom k hc hk
  ·rw [hμ k hc]; exact h.dom k (Nat.le_trans hl hk)
 ·by_cases hc : C k
  ·exact hrow hmono k sz es hc hk hne
  ·rw [hb k hc] at hk;rw [hμ k hc] at hne ⊢;rcases h.row k sz es hk hne with hnil | ⟨b, m, c, t, a1, a2, a3, a4, a5⟩
   ·exact .inl hnil
   ·exact .inr ⟨b, m, c, t, a1, by rw [(hpo k b hc (Z15 hk) (.inl ⟨m, a1⟩)).2]; exact a2, a3, a4, a5.mono (fun _ _ _ e => e) hmono⟩
 ·by_cases hc : C k
  ·exact hplain k y hc hk
  ·rw [hb k hc] at hk;exact fun b hb => h.plain k y hk b ((hi k b hc).1 hb)
 ·by_cases hc : C k
  ·exact hobj hmono k x hc hk hne
  ·rw [ho k hc] at hk;rw [hμ k hc] at hne;exact (h.obj k x hk hne).frame (fun _ _ _ e => e) hmono (fun b => hi k b hc) (fun b hb => (hpo k b hc (Z2j hk) hb).2)
 ·by_cases hc : C k
  ·exact hnon k hc hk
  ·rw [hμ k hc] at hk;exact fun b hb => h.non k hk b ((hi k b hc).1 hb)
 ·by_cases hc : C k <;> by_cases hc' : C k'
  ·exact hinj k k' b hc hc' hk hk' g g'
  ·exfalso
   rw [hv k' hc'] at hk';have g2 := (hf k' b hc').1 g';rcases hfoot k b hc hk g with ⟨j, a1, a2, a3⟩ | ⟨a1, -⟩
   ·exact hc' (h.inj j k' b a2 hk' a3 g2 ▸ a1)
   ·have := h.lt b ⟨k', hk', g2⟩; omega
  ·exfalso
   rw [hv k hc] at hk;have g2 := (hf k b hc).1 g;rcases hfoot k' b hc' hk' g' with ⟨j, a1, a2, a3⟩ | ⟨a1, -⟩
   ·exact hc (h.inj j k b a2 hk a3 g2 ▸ a1)
   ·have := h.lt b ⟨k, hk, g2⟩; omega
  ·exact h.inj k k' b (by rw [<- hv k hc]; exact hk) (by rw [<- hv k' hc']; exact hk') ((hf k b hc).1 g) ((hf k' b hc').1 g')
 ·rcases hown b hb with ho | ⟨-, ho⟩
  ·exact Nat.lt_of_lt_of_le (h.lt b ho) hsz
  ·exact ho
 ·obtain ⟨hcell, hno⟩ := h.frz b o v hv;have hlt : b < w.heap.size := World.block_lt_of_cell? _ _ hcell;refine ⟨by rw [World.cell?_of_block (w := w) (hheap b hlt fun k _ hk hfo => hno ⟨k, hk, hfo⟩)]; exact hcell, fun ho' => ?_⟩;rcases hown b ho' with g | ⟨g, -⟩
  ·exact hno g
  ·omega
 ·by_cases hc : C k
  ·exact hbf k x hc hk
  ·rw [hH k hc] at hk; exact h.fr k x hk
 ·rcases hown b ho' with g | ⟨g, -⟩
  ·exact ho g
  ·omega
theorem Zji {F : Fz} {μ : Mu} {H : List Blk} {w : World} (h : HR F μ H w) {k : Nat} (hn : μ k = none) (hle : k <= H.length) {x : Blk} (hbf : BFr x) {sz : Nat} {es : List D} (hes : x.es = some (sz, es))
  {c : Array Value} (hc : Z1l F μ sz es c) (hsz : es.length * sz <= c.size) (t : TypeId) :
  HR F (Z4v μ k (some (w.heap.size, c.size))) (Z4l H k x) (w.alloc (.cells c t)) /\ Post F μ H w F (Z4v μ k (some (w.heap.size, c.size))) (Z4l H k x) (w.alloc (.cells c t)) /\
   (∀ j y, μ j = some y -> Z4v μ k (some (w.heap.size, c.size)) j = some y) := by
 have hat := Z6h μ k (some (w.heap.size, c.size));have hnob : ∀ y, Z13 (Z4l H k x) k = some y -> False := fun y hy => by
  rw [Zep x hle, if_pos rfl] at hy
  cases x <;> simp [Blk.es, Blk.obj] at hes hy
 have hfk : ∀ b, Z40 (Z4v μ k (some (w.heap.size, c.size))) k b -> b = w.heap.size := fun b hb => by
  rcases hb with ⟨m, hm⟩ | hb
  ·rw [hat] at hm; cases hm; rfl
  ·exact absurd hb (h.non k hn b)
 refine Z5e (fun j => j = k) h (Z7b x).1 (fun j hj => by rw [Z2m x hle, if_neg hj]) (fun j hj => Z2k _ hj) (fun j b _ => Iff.rfl) (fun j hj y hy => by subst hj; rw [hn] at hy; cases hy) (by simp) rfl rfl rfl
  (fun b hb _ => by show (w.heap.push _)[b]? = _; rw [Array.getElem?_push, if_neg (by omega)]) (fun k' b hk' _ hf => ?_) (fun k1 k2 b h1 h2 _ _ _ _ => h1.trans h2.symm) (fun k' hk' hle' => ?_) (fun hmono k' sz' es' hk' hb _ => ?_) (fun k' y hk' _ b => by subst hk'; exact h.non k' hn b)
  (fun _ k' y hk' hy _ => by subst hk'; exact (hnob y hy).elim) (fun k' hk' he => by subst hk'; rw [hat] at he; cases he) (fun k' y hk' hy => ?_)
 ·subst hk';obtain rfl := hfk b hf;exact .inr ⟨Nat.le_refl _, by simp⟩
 ·subst hk';have := Zi4 x hle; omega
 ·subst hk';rw [Zbz x hle, if_pos rfl, hes] at hb
  cases hb
  exact .inr ⟨w.heap.size, c.size, c, t, hat, by show (w.heap.push _)[w.heap.size]? = _; simp, rfl, hsz, hc.mono (fun _ _ _ e => e) hmono⟩
 ·subst hk';rw [Z2m x hle, if_pos rfl] at hy
  cases hy; exact hbf
theorem Zqx {F : Fz} {μ : Mu} {H : List Blk} {w w' : World} (h : HR F μ H w) {k sz b m : Nat} {es : List D} {c c' : Array Value} {t : TypeId} (hb : Z17 H k = some (sz, es)) (hμ : μ k = some (some (b, m)))
  (hw : w.heap[b]? = some (.cells c t (0, 0))) (hw' : w'.heap = w.heap.setIfInBounds b (.cells c' t (0, 0))) (e1 : w'.tape = w.tape) (e2 : w'.os = w.os) (e3 : w'.output = w.output) (hs : c'.size = m)
  {x : Blk} (hbf : BFr x) {sz' : Nat} {es' : List D} (hx : x.es = some (sz', es')) (hl : es'.length * sz' <= m) (hc : Z1l F μ sz' es' c') : HR F μ (H.set k x) w' /\ Post F μ H w F μ (H.set k x) w' := by
 have hk := Z7k hb;have hset : ∀ j, (H.set k x)[j]? = if j = k then some x else H[j]? := fun j => by
  have := Z2m (H := H) x (Nat.le_of_lt hk) j
  rwa [Z4l, if_pos hk] at this
 have hlive := Z15 hb;have hblt := (Array.getElem?_eq_some_iff.1 hw).1;have hnob : ∀ y, Z13 (H.set k x) k = some y -> False := fun y hy => by
  rw [Z19 (by rw [hset, if_pos rfl])] at hy
  cases x <;> simp [Blk.es, Blk.obj] at hx hy
 have := Z5e (μ' := μ) (w' := w') (H' := H.set k x) (fun j => j = k) h (by simp) (fun j hj => by rw [hset, if_neg hj]) (fun j _ => rfl) (fun j b _ => Iff.rfl) (fun _ _ _ h => h) (by rw [hw']; simp) e1 e2 e3
  (fun b' hb' hn => by rw [hw', Array.getElem?_setIfInBounds, if_neg]; rintro rfl; exact hn k rfl hlive (.inl ⟨m, hμ⟩)) (fun k' b' hk' _ hf => .inl ⟨k, rfl, hlive, by subst hk'; exact hf⟩) (fun k1 k2 b h1 h2 _ _ _ _ => h1.trans h2.symm)
  (fun k' hk' hle' => by subst hk'; simp at hle'; omega) (fun _ k' sz1 es1 hk' hb1 _ => ?_) (fun k' y hk' _ b => by subst hk'; exact h.plain k' _ hb b) (fun _ k' y hk' hy _ => by subst hk'; exact (hnob y hy).elim) (fun k' hk' he => by subst hk'; rw [hμ] at he; cases he) (fun k' y hk' hy => ?_)
 ·exact ⟨this.1, this.2.1⟩
 ·subst hk';rw [Z1s (by rw [hset, if_pos rfl]), hx] at hb1; cases hb1;exact .inr ⟨b, m, c', t, hμ, by rw [hw', Array.getElem?_setIfInBounds, if_pos rfl, if_pos hblt], hs, hl, hc⟩
 ·subst hk';rw [hset, if_pos rfl] at hy; cases hy; exact hbf
theorem Zns {F : Fz} {μ : Mu} {H : List Blk} {w : World} (h : HR F μ H w) {k : Nat} (hk : k < H.length) : HR F μ (H.set k .dead) w /\ Post F μ H w F μ (H.set k .dead) w := by
 have hset : ∀ j, (H.set k Blk.dead)[j]? = if j = k then some Blk.dead else H[j]? := fun j => by
  have := Z2m (H := H) Blk.dead (Nat.le_of_lt hk) j
  rwa [Z4l, if_pos hk] at this
 have hd : Z20 (H.set k Blk.dead) k = false := by rw [Z6x (by rw [hset, if_pos rfl])]; rfl
 have := Z5e (μ' := μ) (w' := w) (H' := H.set k .dead) (fun j => j = k) h (by simp) (fun j hj => by rw [hset, if_neg hj]) (fun j _ => rfl) (fun j b _ => Iff.rfl) (fun _ _ _ h => h) (Nat.le_refl _) rfl rfl rfl
  (fun b' hb' hn => rfl) (fun k' b' hk' hlv _ => by subst hk'; rw [hd] at hlv; cases hlv) (fun k1 k2 b h1 h2 _ _ _ _ => h1.trans h2.symm)
  (fun k' hk' hle' => by subst hk'; simp at hle'; omega) (fun _ k' sz1 es1 hk' hb1 _ => by subst hk'; have := Z15 hb1; rw [hd] at this; cases this) (fun k' y hk' hb1 b => by subst hk'; have := Z15 hb1; rw [hd] at this; cases this) (fun _ k' y hk' hy _ => by subst hk'; have := Z2j hy; rw [hd] at this; cases this) (fun k' hk' he => by subst hk'; exact h.non k' he) (fun k' y hk' hy => by
   subst hk'; rw [hset, if_pos rfl] at hy; cases hy; exact fun _ _ e => by cases e)
 exact ⟨this.1, this.2.1⟩
section
variable {F : Fz} {μ : Mu} {w : World}
theorem Z2p {H : List Blk} {k : Nat} {y : OB} (h : Z13 H k = some y) : k < H.length := by
 unfold Z13 at h;obtain ⟨x, hx, -⟩ := Option.bind_eq_some_iff.1 h;exact (List.getElem?_eq_some_iff.1 hx).1
theorem Z41 {H : List Blk} {k : Nat} {y : OB} (x : Blk) (h : Z13 H k = some y) : Z13 (H ++ [x]) k = some y := by
 unfold Z13 at h ⊢; rw [List.getElem?_append_left (Z2p h)]; exact h
theorem Z95 {H : List Blk} {k j : Nat} {y : OB} {z : Nat × List D} (x : Blk) (hb : Z17 H j = some z) (h : Z13 H k = some y) : Z13 (H.set j x) k = some y := by
 have hne : j ≠ k := by rintro rfl; rw [Z6w h] at hb; cases hb
 unfold Z13 at h ⊢; rw [List.getElem?_set, if_neg hne]; exact h
theorem Zbc {H : List Blk} (h : HR F μ H w) {k b m : Nat} {x y : OB} {o : Obj} (hb : Z13 H k = some x) (hμ : μ k = some (some (b, m))) (hn : ∀ c, ¬ μ.inn k c) {w' : World} (hw' : w'.heap = w.heap.setIfInBounds b o) (e1 : w'.tape = w.tape) (e2 : w'.os = w.os) (e3 : w'.output = w.output)
  (hy : w'.heap[b]? = some o -> OBR F μ k w' y) : HR F μ (H.set k (.ob y)) w' /\ Post F μ H w F μ (H.set k (.ob y)) w' := by
 have hk := Z2p hb;have hset : ∀ j, (H.set k (Blk.ob y))[j]? = if j = k then some (Blk.ob y) else H[j]? := fun j => by
  have := Z2m (H := H) (Blk.ob y) (Nat.le_of_lt hk) j
  rwa [Z4l, if_pos hk] at this
 have hlive := Z2j hb;have hblt := h.lt b ⟨k, hlive, .inl ⟨m, hμ⟩⟩;have := Z5e (μ' := μ) (w' := w') (H' := H.set k (.ob y)) (fun j => j = k) h (by simp) (fun j hj => by rw [hset, if_neg hj]) (fun j _ => rfl) (fun j b _ => Iff.rfl) (fun _ _ _ h => h) (by rw [hw']; simp) e1 e2 e3
  (fun b' hb' hn => by rw [hw', Array.getElem?_setIfInBounds, if_neg]; rintro rfl; exact hn k rfl hlive (.inl ⟨m, hμ⟩)) (fun k' b' hk' _ hf => .inl ⟨k, rfl, hlive, by subst hk'; exact hf⟩) (fun k1 k2 b h1 h2 _ _ _ _ => h1.trans h2.symm)
  (fun k' hk' hle' => by subst hk'; simp at hle'; omega) (fun _ k' sz1 es1 hk' hb1 _ => by subst hk'; rw [Z1s (by rw [hset, if_pos rfl])] at hb1; cases hb1) (fun k' z hk' hb1 b => by subst hk'; exact hn b)
  (fun _ k' z hk' hz _ => by
   subst hk'
   rw [Z19 (by rw [hset, if_pos rfl])] at hz; cases hz
   exact hy (by rw [hw', Array.getElem?_setIfInBounds, if_pos rfl, if_pos hblt])) (fun k' hk' he => by subst hk'; exact hn) (fun k' z hk' hz => by
   subst hk'; rw [hset, if_pos rfl] at hz; cases hz; exact fun _ _ e => by cases e)
 exact ⟨this.1, this.2.1⟩
theorem Z48 {H : List Blk} {k j : Nat} {y x : OB} (hb : Z13 H j = some x) (hx : x ≠ .mk) (z : Blk) (h : Z13 H k = some .mk) : Z13 (H.set j z) k = some .mk := by
 have hne : j ≠ k := by rintro rfl; rw [h] at hb; cases hb; exact hx rfl
 unfold Z13 at h ⊢; rw [List.getElem?_set, if_neg hne]; exact h
theorem Zjj {H : List Blk} (h : HR F μ H w) {x : OB} {o : Obj} (hx : x ≠ .mk) (hy : (w.alloc o).heap[w.heap.size]? = some o -> (∀ j y, μ j = some y -> Z4v μ H.length (some (w.heap.size, 0)) j = some y) -> OBR F (Z4v μ H.length (some (w.heap.size, 0))) H.length (w.alloc o) x) :
  HR F (Z4v μ H.length (some (w.heap.size, 0))) (H ++ [.ob x]) (w.alloc o) /\ Post F μ H w F (Z4v μ H.length (some (w.heap.size, 0))) (H ++ [.ob x]) (w.alloc o) /\ ∀ j y, μ j = some y -> Z4v μ H.length (some (w.heap.size, 0)) j = some y := by
 have hn : μ H.length = none := h.dom _ (Nat.le_refl _);have hat := Z6h μ H.length (some (w.heap.size, 0));have hget : (H ++ [Blk.ob x])[H.length]? = some (.ob x) := by simp
 have hf : ∀ b, Z40 (Z4v μ H.length (some (w.heap.size, 0))) H.length b -> b = w.heap.size := fun b hb => by
  rcases hb with ⟨m, hm⟩ | hi
  ·rw [hat] at hm; cases hm; rfl
  ·exact absurd hi (h.non _ hn b)
 refine Z5e (fun j => j = H.length) h (by simp) (fun k hk => by
   by_cases hlt : k < H.length
   ·rw [List.getElem?_append_left hlt]
   ·rw [List.getElem?_eq_none (by simp; omega), List.getElem?_eq_none (by omega)]) (fun j hj => Z2k _ hj) (fun j b _ => Iff.rfl) (fun j hj y hy => by subst hj; rw [hn] at hy; cases hy) (by simp) rfl rfl rfl
  (fun b hb _ => by show (w.heap.push _)[b]? = _; rw [Array.getElem?_push, if_neg (by omega)]) (fun k' b hk' _ hff => ?_) (fun k1 k2 b h1 h2 _ _ _ _ => h1.trans h2.symm) (fun k' hk' hle => by subst hk'; simp at hle; omega) (fun _ k' sz es hk' hb _ => by subst hk'; rw [Z1s hget] at hb; cases hb)
  (fun k' y hk' hb b => by subst hk'; rw [Z1s hget] at hb; cases hb) (fun hmono k' y hk' hyy _ => ?_) (fun k' hk' he => by subst hk'; rw [hat] at he; cases he) (fun k' y hk' hyy => by
   subst hk'; rw [hget] at hyy; cases hyy; exact fun _ _ e => by cases e)
 ·subst hk';obtain rfl := hf b hff;exact .inr ⟨Nat.le_refl _, by simp⟩
 ·subst hk';rw [Z19 hget] at hyy; cases hyy;exact hy (by show (w.heap.push _)[w.heap.size]? = _; simp) hmono
end
end Go.Abs

namespace Go.Abs
open Go
structure Ar where
 add : Int -> Int -> Int
 sub : Int -> Int -> Int
 mul : Int -> Int -> Int
 neg : Int -> Int
 quo : Int -> Int -> Int
 rem : Int -> Int -> Int
 wrap : IntKind -> Int -> Int
 bits : BinOp -> IntKind -> Int -> Int -> Int
 shift : BinOp -> IntKind -> Int -> Int -> Int
 cmp : BinOp -> Int -> Int -> Bool
 min : Int -> Int -> Int
 max : Int -> Int -> Int
 fits : IntKind -> Int -> Prop
 nz : Int -> Prop
 nneg : Int -> Prop
 beq : Bool -> Bool -> Bool
 band : Bool -> Bool -> Bool
 bnot : Bool -> Bool
 seq : ByteArray -> ByteArray -> Bool
 inb : Int -> Nat -> Prop
 tn : Int -> Nat
 oi : Nat -> Int
 addN : Nat -> Nat -> Nat
 mulN : Nat -> Nat -> Nat
 get : List D -> Nat -> Option D
 len : List D -> Nat
 set : List D -> Nat -> D -> List D
 app : List D -> List D -> List D
 sub2 : List D -> Int -> Int -> List D
 rep : Nat -> D -> List D
 lenIs : List D -> Nat -> Prop
 ltN : Nat -> List D -> Prop
 leN : Nat -> Nat -> Prop
 eqN : Nat -> Nat -> Prop
 sub2OK : List D -> Int -> Int -> Prop
 room : Nat -> Nat -> Prop
 sget : ByteArray -> Nat -> Int
 slen : ByteArray -> Nat
 ssub : ByteArray -> Int -> Int -> ByteArray
 ssubOK : ByteArray -> Int -> Int -> Prop
 scat : ByteArray -> ByteArray -> ByteArray
 scatOK : ByteArray -> ByteArray -> Prop
 leq : List Int -> List Int -> Bool
 mget : List (List Int × D) -> List Int -> D -> Option D
 mhas : List (List Int × D) -> List Int -> Bool
 mput : List (List Int × D) -> List Int -> D -> List (List Int × D)
 tl : Nat -> Int -> Nat -> Nat -> Nat -> Value
 tlOK : Int -> Nat -> Nat -> Prop
 hd : Nat -> Int -> Nat -> Value
 hdOK : Int -> Nat -> Prop
def Zc0 (op : BinOp) (k : IntKind) (x y : Int) : Int :=
 let a := BitVec.ofInt k.bits x
 let b := BitVec.ofInt k.bits y
 match op with
 | .and => k.wrap (a &&& b).toNat
 | .or => k.wrap (a ||| b).toNat
 | .xor => k.wrap (a ^^^ b).toNat
 | _ => k.wrap (a &&& ~~~b).toNat
def Zlp (op : BinOp) (k : IntKind) (x y : Int) : Int :=
 match op with
 | .shl => k.wrap (x * 2 ^ (Nat.min y.toNat k.bits))
 | _ => x.fdiv (2 ^ (Nat.min y.toNat k.bits))
def Z25 (op : BinOp) (x y : Int) : Bool :=
 match op with
 | .eql => x == y
 | .neq => x != y
 | .lss => x < y
 | .leq => x <= y
 | .gtr => x > y
 | _ => x ≥ y
def Zqy (s : ByteArray) (i : Nat) : Nat := ((s.data[i]?).map UInt8.toNat).getD 0
def ar : Ar where
 add x y := x + y
 sub x y := x - y
 mul x y := x * y
 neg x := -x
 quo := Int.tdiv
 rem := Int.tmod
 wrap := IntKind.wrap
 bits := Zc0
 shift := Zlp
 cmp := Z25
 min x y := if y < x then y else x
 max x y := if y > x then y else x
 fits k z := k.wrap z = z
 nz y := y ≠ 0
 nneg y := 0 <= y
 beq x y := x == y
 band x y := x && y
 bnot x := !x
 seq x y := x.toList == y.toList
 inb i n := 0 <= i /\ i < n
 tn := Int.toNat
 oi n := n
 addN x y := x + y
 mulN x y := x * y
 get l i := l[i]?
 len l := l.length
 set l i d := l.set i d
 app l r := l ++ r
 sub2 l lo hi := (l.take hi.toNat).drop lo.toNat
 rep n d := List.replicate n d
 lenIs l n := l.length = n
 ltN i l := i < l.length
 leN i n := i <= n
 eqN i n := i = n
 sub2OK l lo hi := 0 <= lo /\ lo <= hi /\ hi <= l.length
 room n b := n * b <= 140737488355328 /\ n <= 4611686018427387904
 sget s i := (Zqy s i : Nat)
 slen s := s.size
 ssub s lo hi := s.extract lo.toNat hi.toNat
 ssubOK s lo hi := 0 <= lo /\ lo <= hi /\ hi <= s.size
 scat x y := x ++ y
 scatOK x y := x.size + y.size <= 9223372036854775807
 leq x y := decide (x = y)
 mget l k z := some (((l.find? (·.1 == k)).map (·.2)).getD z)
 mhas l k := (l.find? (·.1 == k)).isSome
 mput l k d := match l.findIdx? (·.1 == k) with | some i => l.set i (k, d) | none => l ++ [(k, d)]
 tl b l sz n cap := .slice (if cap = l.toNat then some ⟨b, 0, none⟩ else some ⟨b, l.toNat * sz, none⟩) (n - l.toNat) (cap - l.toNat)
 tlOK l n cap := 0 <= l /\ l <= n /\ n <= cap
 hd b h cap := .slice (some ⟨b, 0, none⟩) h.toNat cap
 hdOK h cap := 0 <= h /\ h <= cap
structure Need {α : Type} (x : Option α) (K : α -> Prop) : Prop where
 out : ∃ d, x = some d /\ K d
structure TE where
 size : Nat
 bytes : Nat
 agg : Bool
 zero : D
 el : Option (Option Nat × Nat)
 fds : List (Nat × Nat × Nat)
 ik : Option IntKind
 kc : Nat
 ok : Bool
 mp : Option (Nat × Nat)
 fl : Option Nat
abbrev TT := Nat -> Option TE
def Z1d (T : TT) (n : Nat) : Option TE := T n
def lkp : List (Nat × TE) -> Nat -> Option TE
 | [], _ => none
 | (t, e) :: r, n => (match Nat.beq t n with | true => some e | false => lkp r n)
def Z8d : TypeDesc -> Bool
 | .struct _ | .array _ _ => true
 | _ => false
def Zaw : TypeDesc -> Nat
 | .bool => 1
 | .string => 2
 | .slice _ => 3
 | .map _ _ => 4
 | .pointer _ => 5
 | .func _ _ _ => 6
 | .interface _ => 7
 | .struct _ => 8
 | .array _ _ => 9
 | .int _ => 10
 | _ => 0
def Z3c (P : Program) (t : TypeId) : Option TE :=
 match P.info? t, P.underlying t with
 | some i, some d =>
  match i.zero with
  | some z => some { size := i.size, bytes := i.bytes, agg := Z8d d, zero := ofV z, el := (match d with | .slice e => some (none, e) | .array n e => some (some n, e) | _ => none), fds := (match d with | .struct fs => fs.toList.map (fun f => (f.offset, P.cellsOf f.type, ((P.underlying f.type).map fun d => if Z8d d then 1 else 0).getD 2)) | _ => []), ik := (match d with | .int k => some k | _ => none), kc := Zaw d, ok := (match d with | .struct fs => (fs.toList.mapM fun f => (P.info? f.type).map fun i => (f.offset, i.size)).isSome | _ => true), mp := (match d with | .map k e => some (k, e) | _ => none), fl := if P.eqGuardType P.depth t then none else Z3e P 6 t }
  | none => none
 | _, _ => none
structure TOK (P : Program) (T : TT) : Prop where
 ok : ∀ t e, Z1d T t = some e -> Z3c P t = some e
 zs : ∀ t e, Z1d T t = some e -> ∀ i z, P.info? t = some i -> i.zero = some z -> z.cells.size = i.size /\ ∀ v ∈ z.cells, v.oneCell' = true
 mixed : P.follows .mixedOrders = true
theorem TOK.at {P : Program} {T : TT} (h : TOK P T) {t : TypeId} {e : TE} (he : Z1d T t = some e) :
  ∃ i d z, P.info? t = some i /\ P.underlying t = some d /\ i.zero = some z /\ e.size = i.size /\ e.bytes = i.bytes /\ e.agg = Z8d d /\ e.zero = ofV z /\ z.cells.size = i.size /\ (∀ v ∈ z.cells, v.oneCell' = true) /\
   e.el = (match d with | .slice e => some (none, e) | .array n e => some (some n, e) | _ => none) /\
   e.fds = (match d with | .struct fs => fs.toList.map (fun f => (f.offset, P.cellsOf f.type, ((P.underlying f.type).map fun d => if Z8d d then 1 else 0).getD 2)) | _ => []) /\
   e.ik = (match d with | .int k => some k | _ => none) /\ e.kc = Zaw d /\ e.ok = (match d with | .struct fs => (fs.toList.mapM fun f => (P.info? f.type).map fun i => (f.offset, i.size)).isSome | _ => true) /\
   e.mp = (match d with | .map k e => some (k, e) | _ => none) /\ e.fl = (if P.eqGuardType P.depth t then none else Z3e P 6 t) := by
 have h1 := h.ok t e he;unfold Z3c at h1
 split at h1
 ·rename_i i d hi hd
  split at h1
  ·rename_i z hz
   cases h1
   obtain ⟨z1, z2⟩ := h.zs t _ he i z hi hz;exact ⟨i, d, z, hi, hd, hz, rfl, rfl, rfl, rfl, z1, z2, rfl, rfl, rfl, rfl, rfl, rfl, rfl⟩
  ·cases h1
 ·cases h1
def Zi5 : List D -> Nat -> Option D
 | [], _ => none
 | d :: _, 0 => some d
 | _ :: r, n + 1 => Zi5 r n
theorem Zc1 : ∀ (l : List D) (n : Nat), Zi5 l n = l[n]?
 | [], n => by simp [Zi5]
 | d :: _, 0 => by simp [Zi5]
 | _ :: r, n + 1 => by simp [Zi5, Zc1 r n]
def Z1m : List Blk -> Nat -> Option Blk
 | [], _ => none
 | d :: _, 0 => some d
 | _ :: r, n + 1 => Z1m r n
theorem Z1u : ∀ (l : List Blk) (n : Nat), Z1m l n = l[n]?
 | [], n => by simp [Z1m]
 | d :: _, 0 => by simp [Z1m]
 | _ :: r, n + 1 => by simp [Z1m, Z1u r n]
theorem Z42 {H : List Blk} {k : Nat} {x : OB} (h : Z1m H k = some (.ob x)) : Z13 H k = some x := by rw [Z1u] at h; rw [Z19 h]; rfl
def ldD (A : Ar) (agg : Bool) (n off : Nat) (K : D -> Prop) : D -> Prop
 | .agg cs =>
  match agg with
  | true => (match Nat.ble (off + n) cs.length with | true => K (.agg ((cs.drop off).take n)) | false => False)
  | false => (match Zi5 cs off with | some x => K x | none => False)
 | .arr cs =>
  match agg with
  | true => (match off with | 0 => A.lenIs cs n /\ K (.arr cs) | _ + 1 => False)
  | false => Need (A.get cs off) K
 | .any => False
 | x =>
  match agg with
  | true => False
  | false => (match off with | 0 => K x | _ + 1 => False)
def ldS (A : Ar) (agg : Bool) (off : Nat) (K : D -> Prop) : D -> Prop
 | .agg cs => (match agg with | true => False | false => Need (A.get cs off) K)
 | .arr cs => (match agg with | true => False | false => Need (A.get cs off) K)
 | _ => False
def ldP (A : Ar) (H : List Blk) (agg : Bool) (n : Nat) (K : D -> Prop) : D -> Prop
 | .b k off => (match Z1m H k with | some (.box d) => ldD A agg n off K d | _ => False)
 | .bs k off => (match Z1m H k with | some (.box d) => ldS A agg off K d | _ => False)
 | .p k sz i off => (match Z1m H k with | some (.els sz' es) => (match Nat.beq sz sz' with | true => Need (A.get es i) (ldD A agg n off K) | false => False) | some (.elo sz' es) => (match Nat.beq sz sz' with | true => Need (A.get es i) (ldD A agg n off K) | false => False) | _ => False)
 | .ip _ es i off => Need (A.get es i) (ldD A agg n off K)
 | .cb d off => ldD A agg n off K d
 | _ => False
section
variable {P : Program} {T : TT} {F : Fz} {μ : Mu} {w : World}
theorem add_lit (b o j : Nat) : (⟨b, o, none⟩ : Addr).add j = ⟨b, o + j, none⟩ := by unfold Addr.add; split <;> simp_all
theorem Zc2 (hT : TOK P T) {t : TypeId} {e : TE} (he : Z1d T t = some e) : (isAgg t).run P w = .ok e.agg w := by
 obtain ⟨i, d, z, h1, h2, h3, h4, h5, h6, -⟩ := hT.at he;unfold isAgg;rw [Sem.run_bind, run_underlying h2 w, h6]
 cases d <;> rfl
theorem Z6i (hT : TOK P T) {t : TypeId} {e : TE} (he : Z1d T t = some e) : (sizeOf t).run P w = .ok e.size w := by
 obtain ⟨i, d, z, h1, h2, h3, h4, -⟩ := hT.at he;simp [sizeOf, typeInfo, h1, h4]
theorem Z7s (hT : TOK P T) {t : TypeId} {e : TE} (he : Z1d T t = some e) {d : D} {b base off : Nat} {K : D -> Prop}
  (hc : ∀ (r : Nat) (c : D), d.cells[r]? = some c -> ∃ v, w.cell? ⟨b, base + r, none⟩ = some v /\ v.oneCell' = true /\ VR F μ c v) (h : ldD ar e.agg e.size off K d) :
  ∃ x v, (loadVar t ⟨b, base + off, none⟩).run P w = .ok v w /\ VR F μ x v /\ K x := by
 have one : ∀ (cs : List D), d.cells = cs -> ∀ x, cs[off]? = some x -> e.agg = false -> K x -> ∃ x v, (loadVar t ⟨b, base + off, none⟩).run P w = .ok v w /\ VR F μ x v /\ K x := fun cs hcs x hx ha hk => by
  obtain ⟨v, h1, h2, h3⟩ := hc off x (hcs ▸ hx);refine ⟨x, v, ?_, h3, hk⟩;unfold loadVar;rw [Sem.run_bind, Zc2 hT he, ha];simp [load, Sem.run, h1]
 have many : ∀ (cs : List D), d.cells = cs -> off + e.size <= cs.length -> e.agg = true -> ∃ vs : Array Value, (loadVar t ⟨b, base + off, none⟩).run P w = .ok (.agg vs) w /\
   ((cs.drop off).take e.size).length = vs.size /\ (∀ (i : Nat) (c : D) (v : Value), ((cs.drop off).take e.size)[i]? = some c -> vs[i]? = some v -> VR F μ c v) /\ (∀ (i : Nat) (v : Value), vs[i]? = some v -> v.oneCell' = true) := fun cs hcs hle ha => by
  have hch : ∀ r : Fin e.size, ∃ v, w.cell? ⟨b, base + off + r.1, none⟩ = some v /\ v.oneCell' = true /\ ∀ c, cs[off + r.1]? = some c -> VR F μ c v := fun r => by
   have hlt : off + r.1 < cs.length := by have := r.2; omega
   obtain ⟨v, h1, h2, h3⟩ := hc (off + r.1) cs[off + r.1] (by rw [hcs]; exact List.getElem?_eq_getElem hlt);refine ⟨v, by rw [Nat.add_assoc]; exact h1, h2, fun c hcc => ?_⟩;rw [List.getElem?_eq_getElem hlt] at hcc; cases hcc; exact h3
  let vs : List Value := (List.finRange e.size).map fun r => Classical.choose (hch r)
  have hget : ∀ j v, vs[j]? = some v -> ∃ hj : j < e.size, v = Classical.choose (hch ⟨j, hj⟩) := fun j v hj => by
   simp only [vs, List.getElem?_map, Option.map_eq_some_iff] at hj;obtain ⟨r, hr, rfl⟩ := hj;obtain ⟨h1, h2⟩ := List.getElem?_eq_some_iff.1 hr;simp only [List.length_finRange] at h1;refine ⟨h1, ?_⟩;have : r = ⟨j, h1⟩ := by rw [<- h2]; simp
   rw [this]
  have hlen : vs.length = e.size := by simp [vs]
  refine ⟨vs.toArray, ?_, by simp [hlen]; omega, fun i c v hi hv => ?_, fun i v hv => ?_⟩
  ·have hrun := run_loadCells_list (P := P) w ⟨b, base + off, none⟩ vs (fun j v hj => by
    obtain ⟨h1, rfl⟩ := hget j v hj
    rw [add_lit]; exact (Classical.choose_spec (hch ⟨j, h1⟩)).1)
   unfold loadVar;rw [Sem.run_bind, Zc2 hT he, ha];simp only [Result.andThen_ok, if_true, Sem.run_bind, Z6i hT he];rw [<- hlen, hrun]; rfl
  ·obtain ⟨h1, rfl⟩ := hget i v (by simpa using hv);rw [List.getElem?_take, if_pos h1, List.getElem?_drop] at hi;exact (Classical.choose_spec (hch ⟨i, h1⟩)).2.2 c hi
  ·obtain ⟨h1, rfl⟩ := hget i v (by simpa using hv);exact (Classical.choose_spec (hch ⟨i, h1⟩)).2.1
 cases d
 case agg cs =>
  simp only [ldD] at h
  split at h
  ·rename_i ha
   split at h
   ·rename_i hb
    obtain ⟨vs, h1, h2, h3, h4⟩ := many cs rfl (Nat.le_of_ble_eq_true hb) ha;exact ⟨_, _, h1, .agg _ _ h2 h3 h4, h⟩
   ·exact h.elim
  ·rename_i ha
   rw [Zc1] at h
   split at h
   ·rename_i x hx; exact one cs rfl x hx ha h
   ·exact h.elim
 case arr cs =>
  simp only [ldD] at h
  split at h
  ·rename_i ha
   split at h
   ·obtain ⟨hl, h⟩ := h;have hl : cs.length = e.size := hl;obtain ⟨vs, h1, h2, h3, h4⟩ := many cs rfl (by omega) ha;rw [List.drop_zero, List.take_of_length_le (by omega)] at h2 h3;exact ⟨_, _, h1, .arr _ _ h2 h3 h4, h⟩
   ·exact h.elim
  ·rename_i ha
   obtain ⟨x, hx, hk⟩ := h.out;exact one cs rfl x hx ha hk
 case any => exact h.elim
 all_goals
  simp only [ldD] at h
  split at h
  ·exact h.elim
  ·rename_i ha
   split at h
   ·exact one _ rfl _ rfl ha h
   ·exact h.elim
theorem Zp5 (hT : TOK P T) {t : TypeId} {e : TE} (he : Z1d T t = some e) {d : D} {b off : Nat} {K : D -> Prop}
  (hc : ∀ (r : Nat) (c : D), d.cells[r]? = some c -> ∃ v, w.cell? ⟨b, r, none⟩ = some v /\ v.oneCell' = true /\ VR F μ c v) (h : ldS ar e.agg off K d) :
  ∃ x v, (loadVar t ⟨b, off, none⟩).run P w = .ok v w /\ VR F μ x v /\ K x := by
 have one : ∀ (cs : List D), d.cells = cs -> ∀ x, cs[off]? = some x -> e.agg = false -> K x -> ∃ x v, (loadVar t ⟨b, off, none⟩).run P w = .ok v w /\ VR F μ x v /\ K x := fun cs hcs x hx ha hk => by
  obtain ⟨v, h1, h2, h3⟩ := hc off x (hcs ▸ hx);refine ⟨x, v, ?_, h3, hk⟩;unfold loadVar;rw [Sem.run_bind, Zc2 hT he, ha];simp [load, Sem.run, h1]
 cases d <;> try exact h.elim
 all_goals
  simp only [ldS] at h
  split at h
  ·exact h.elim
  ·rename_i ha
   obtain ⟨x, hx, hk⟩ := h.out;exact one _ rfl x hx ha hk
theorem HR.cells {H : List Blk} (h : HR F μ H w) {k sz b m : Nat} {es : List D} (hb : Z17 H k = some (sz, es)) (hμ : μ k = some (some (b, m))) (i : Nat) (e : D) (he : es[i]? = some e) (r : Nat) (d : D) (hd : e.cells[r]? = some d) :
  ∃ v, w.cell? ⟨b, i * sz + r, none⟩ = some v /\ v.oneCell' = true /\ VR F μ d v := by
 rcases h.row k sz es hb (by rw [hμ]; simp) with ⟨e1, -⟩ | ⟨b', m', c, t, e1, e2, -, -, hc⟩
 ·rw [hμ] at e1; cases e1
 ·rw [hμ] at e1; cases e1;obtain ⟨v, h1, h2, h3⟩ := (hc i e he).2 r d hd;exact ⟨v, by simp only [World.cell?, e2]; exact h1, h2, h3⟩
theorem Z7c {H : List Blk} {k : Nat} {d : D} (h : Z1m H k = some (.box d)) : Z17 H k = some (d.cells.length, [d]) := by
 rw [Z1u] at h; simp [Z17, h, Blk.es]
theorem Z5f {H : List Blk} {k sz : Nat} {es : List D} (h : Z1m H k = some (.els sz es)) : Z17 H k = some (sz, es) := by
 rw [Z1u] at h; simp [Z17, h, Blk.es]
theorem Z8e {H : List Blk} {k sz : Nat} {es : List D} (h : Z1m H k = some (.elo sz es)) : Z17 H k = some (sz, es) := by
 rw [Z1u] at h; simp [Z17, h, Blk.es]
theorem Zgk (hT : TOK P T) {t : TypeId} {e : TE} (he : Z1d T t = some e) {H : List Blk} (hr : HR F μ H w) {d : D} {v : Value} (hv : VR F μ d v) {K : D -> Prop} (h : ldP ar H e.agg e.size K d) :
  ∃ x y, (Instr.loadAt t v).run P w = .ok y w /\ VR F μ x y /\ K x := by
 have fin : ∀ a, v = .pointer (some a) -> (∃ x y, (loadVar t a).run P w = .ok y w /\ VR F μ x y /\ K x) -> ∃ x y, (Instr.loadAt t v).run P w = .ok y w /\ VR F μ x y /\ K x := fun a ha ⟨x, y, h1, h2⟩ =>
  ⟨x, y, by subst ha; simp only [Instr.loadAt, Instr.sureAddr, Sem.run_bind, Sem.run_pure, Result.andThen_ok, h1], h2⟩
 cases d <;> try exact h.elim
 case b k off =>
  simp only [ldP] at h
  split at h
  ·rename_i d hd
   cases hv with
   | cl _ _ hc => cases hc
   | b _ _ b m hμ =>
    refine fin _ rfl ?_;have := Z7s hT he (w := w) (F := F) (μ := μ) (b := b) (base := 0) (off := off) (d := d) (fun r c hrc => by simpa using hr.cells (Z7c hd) hμ 0 d rfl r c hrc) h;simpa using this
  ·exact h.elim
 case bs k off =>
  simp only [ldP] at h
  split at h
  ·rename_i d hd
   cases hv with
   | cl _ _ hc => cases hc
   | bs _ _ b m hμ => exact fin _ rfl (Zp5 hT he (d := d) (fun r c hrc => by simpa using hr.cells (Z7c hd) hμ 0 d rfl r c hrc) h)
  ·exact h.elim
 case p k sz i off =>
  simp only [ldP] at h
  split at h
  ·rename_i sz' es hd
   split at h
   ·rename_i hsz
    obtain rfl := Nat.eq_of_beq_eq_true hsz;obtain ⟨e1, he1, hk⟩ := h.out
    cases hv with
    | cl _ _ hc => cases hc
    | p _ _ _ _ b m hμ => exact fin _ rfl (Z7s hT he (fun r c hrc => hr.cells (Z5f hd) hμ i e1 he1 r c hrc) hk)
   ·exact h.elim
  ·rename_i sz' es hd
   split at h
   ·rename_i hsz
    obtain rfl := Nat.eq_of_beq_eq_true hsz;obtain ⟨e1, he1, hk⟩ := h.out
    cases hv with
    | cl _ _ hc => cases hc
    | p _ _ _ _ b m hμ => exact fin _ rfl (Z7s hT he (fun r c hrc => hr.cells (Z8e hd) hμ i e1 he1 r c hrc) hk)
   ·exact h.elim
  ·exact h.elim
 case ip sz es i off =>
  obtain ⟨e1, he1, hk⟩ := h.out
  cases hv with
  | cl _ _ hc =>
   cases hc with
   | ip _ _ b o _ _ val hz hf hv => exact fin _ rfl (Z7s hT he (fun r c hrc => ⟨_, (hr.frz _ _ _ (hf i e1 r c he1 hrc).1).1, (hf i e1 r c he1 hrc).2, .cl _ _ (hv i e1 r c he1 hrc)⟩) hk)
 case cb d off =>
  simp only [ldP] at h
  cases hv with
  | cl _ _ hc =>
   cases hc with
   | cb _ b o _ val hf hv => exact fin _ rfl (Z7s hT he (fun r c hrc => ⟨_, (hr.frz _ _ _ (hf r c hrc).1).1, (hf r c hrc).2, .cl _ _ (hv r c hrc)⟩) h)
end
end Go.Abs

namespace Go.Abs
open Go
def opt (x : Option D) (K : D -> Prop) : Prop := match x with | some d => K d | none => False
def Zi6 (A : Ar) (op : BinOp) (k : IntKind) (x y : Int) (K : D -> Prop) : Prop :=
 match op with
 | .add => (match k.signed with | true => A.fits k (A.add x y) /\ K (.v (.int k (A.add x y))) | false => K (.v (.int k (A.wrap k (A.add x y)))))
 | .sub => (match k.signed with | true => A.fits k (A.sub x y) /\ K (.v (.int k (A.sub x y))) | false => K (.v (.int k (A.wrap k (A.sub x y)))))
 | .mul => (match k.signed with | true => A.fits k (A.mul x y) /\ K (.v (.int k (A.mul x y))) | false => K (.v (.int k (A.wrap k (A.mul x y)))))
 | .quo => A.nz y /\ A.fits k (A.quo x y) /\ K (.v (.int k (A.quo x y)))
 | .rem => A.nz y /\ K (.v (.int k (A.rem x y)))
 | .and | .or | .xor | .andNot => K (.v (.int k (A.bits op k x y)))
 | .eql | .neq | .lss | .leq | .gtr | .geq => K (.v (.bool (A.cmp op x y)))
 | _ => False
def Zjk (A : Ar) (op : BinOp) (x y : ByteArray) (K : D -> Prop) : Prop :=
 match op with
 | .add => A.scatOK x y /\ K (.v (.string (A.scat x y)))
 | .eql => K (.v (.bool (A.seq x y)))
 | .neq => K (.v (.bool (A.bnot (A.seq x y))))
 | _ => False
structure NilAns (n : Nat) (K : Bool -> Prop) : Prop where
 out : ∀ b : Bool, (b = true -> n = 0) -> K b
def eqK (op : BinOp) (K : D -> Prop) (b : Bool) : Prop :=
 match op with
 | .eql => K (.v (.bool b))
 | .neq => K (.v (.bool (!b)))
 | _ => False
structure FlatEq (n : Nat) (xs ys : List D) (K : List Int -> List Int -> Prop) : Prop where
 out : ∃ a b : List Int, xs = a.map (fun x => .v (.int .i64 x)) /\ ys = b.map (fun x => .v (.int .i64 x)) /\ a.length = n /\ b.length = n /\ K a b
def Zbd (A : Ar) (T : TT) (op : BinOp) (t : TypeId) (K : D -> Prop) : D -> D -> Prop
 | .v (.int k x), .v (.int k' y) =>
  match op with
  | .shl | .shr => A.nneg y /\ K (.v (.int k (A.shift op k x y)))
  | _ => if k = k' then Zi6 A op k x y K else False
 | .v (.string x), .v (.string y) => Zjk A op x y K
 | .v (.bool x), .v (.bool y) =>
  match Z1d T t with
  | some e => (match e.kc, op with | 1, .eql => K (.v (.bool (A.beq x y))) | 1, .neq => K (.v (.bool (A.bnot (A.beq x y)))) | _, _ => False)
  | none => False
 | .sl _ es, .v (.slice none 0 0) =>
  match Z1d T t with
  | some e => (match e.kc with | 3 => NilAns (A.len es) (eqK op K) | _ => False)
  | none => False
 | .o _ _ n, .v (.slice none 0 0) =>
  match Z1d T t with
  | some e => (match e.kc with | 3 => NilAns n (eqK op K) | _ => False)
  | none => False
 | .v (.slice none 0 0), .v (.slice none 0 0) =>
  match Z1d T t with
  | some e => (match e.kc with | 3 => eqK op K true | _ => False)
  | none => False
 | .ifc _ _, .v .nilIface =>
  match Z1d T t with
  | some e => (match e.kc with | 7 => eqK op K false | _ => False)
  | none => False
 | .agg xs, .agg ys =>
  match Z1d T t with
  | some e => (match e.fl, e.agg with | some n, true => FlatEq n xs ys (fun a b => (match op with | .eql => K (.v (.bool (A.leq a b))) | .neq => K (.v (.bool (A.bnot (A.leq a b)))) | _ => False)) | _, _ => False)
  | none => False
 | _, _ => False
def unA (A : Ar) (op : UnOp) (K : D -> Prop) : D -> Prop
 | .v (.bool x) => (match op with | .not => K (.v (.bool (A.bnot x))) | _ => False)
 | .v (.int k x) => (match op with | .neg => A.fits k (A.neg x) /\ K (.v (.int k (A.neg x))) | _ => False)
 | _ => False
def Zeq (A : Ar) (T : TT) (src dst : TypeId) (K : D -> Prop) : D -> Prop
 | .v (.int _ n) =>
  match Z1d T src, Z1d T dst with
  | some e1, some e2 => (match e1.kc, e2.ik with | 10, some k => K (.v (.int k (A.wrap k n))) | _, _ => False)
  | _, _ => False
 | _ => False
def Zer (A : Ar) (n : Nat) (K : D -> Prop) : D -> Prop
 | .b k o => K (.b k (o + n))
 | .bs k o => K (.bs k (A.addN o n))
 | .p k sz i o => K (.p k sz i (o + n))
 | .ip sz es i o => K (.ip sz es i (o + n))
 | .cb d o => K (.cb d (o + n))
 | _ => False
def Zlq (A : Ar) (T : TT) (t : TypeId) (f : Nat) (K : D -> Prop) (d : D) : Prop :=
 match Z1d T t with
 | some e => (match e.fds[f]? with | some (off, size, _) => (match size with | 0 => False | _ + 1 => Zer A off K d) | none => False)
 | none => False
def Zds (agg : Bool) (off n : Nat) (cs : List D) (K : D -> Prop) : Prop :=
 match agg with
 | true => (match Nat.ble (off + n) cs.length with | true => K (.agg ((cs.drop off).take n)) | false => False)
 | false => (match Zi5 cs off with | some x => K x | none => False)
def Zbe (T : TT) (t : TypeId) (f : Nat) (K : D -> Prop) : D -> Prop
 | .agg cs => (match Z1d T t with | some e => (match e.fds[f]? with | some (off, size, 1) => Zds true off size cs K | some (off, size, 0) => Zds false off size cs K | _ => False) | none => False)
 | _ => False
def Zes (A : Ar) (esz : Nat) (lit : Bool) (i : Int) (K : D -> Prop) : D -> Prop
 | .b k o => (match lit with | true => K (.b k (o + i.toNat * esz)) | false => K (.bs k (A.addN o (A.mulN (A.tn i) esz))))
 | .bs k o => K (.bs k (A.addN o (A.mulN (A.tn i) esz)))
 | _ => False
def Zlr (A : Ar) (T : TT) (t : TypeId) (lit : Bool) (K : D -> Prop) : D -> D -> Prop
 | d, .v (.int _ i) =>
  match Z1d T t with
  | some e =>
   match e.el with
   | some (none, el) =>
    match Z1d T el with
    | some e2 =>
     match d with
     | .sl sz es => (match Nat.beq sz e2.size with | true => A.inb i (A.len es) /\ K (.ip sz es (A.tn i) 0) | false => False)
     | .o k sz n => (match Nat.beq sz e2.size with | true => A.inb i n /\ K (.p k sz (A.tn i) 0) | false => False)
     | _ => False
    | none => False
   | some (some n, el) =>
    match Z1d T el with
    | some e2 => A.inb i n /\ Zes A e2.size lit i K d
    | none => False
   | none => False
  | none => False
 | _, _ => False
def Z96 (A : Ar) (T : TT) (t : TypeId) (K : D -> Prop) : D -> D -> Prop
 | .v (.string s), .v (.int _ i) => (match Z1d T t with | some e => (match e.kc with | 2 => A.inb i (A.slen s) /\ K (.v (.int .u8 (A.sget s (A.tn i)))) | _ => False) | none => False)
 | .agg cs, .v (.int _ i) =>
  match Z1d T t with
  | some e => (match e.el with | some (some n, el) => (match Z1d T el with | some e2 => (match e2.agg, e2.size with | false, 1 => A.inb i n /\ Need (A.get cs (A.tn i)) K | _, _ => False) | none => False) | _ => False)
  | none => False
 | .arr cs, .v (.int _ i) =>
  match Z1d T t with
  | some e => (match e.el with | some (some n, el) => (match Z1d T el with | some e2 => (match e2.agg, e2.size with | false, 1 => A.inb i n /\ Need (A.get cs (A.tn i)) K | _, _ => False) | none => False) | _ => False)
  | none => False
 | _, _ => False
def Zp6 (i : Nat) (K : D -> Prop) : D -> Prop
 | .tup cs => opt (Zi5 cs i) K
 | _ => False
def Zqz : D -> Bool
 | .b _ _ | .bs _ _ | .p _ _ _ _ | .ip _ _ _ _ | .cb _ _ | .fn _ _ => true
 | _ => false
section
variable {P : Program} {T : TT} {F : Fz} {μ : Mu} {w : World} {K : D -> Prop}
theorem Z3d {x : Value} (ho : x.oneCell' = true) : VR F μ (.v x) x := .cl _ _ (.v _ ho)
theorem Zls {op : BinOp} {t : TypeId} {k : IntKind} {x y : Int} (h : Zi6 ar op k x y K) :
  ∃ d v, (binOp op t (.int k x) (.int k y)).run P w = .ok v w /\ VR F μ d v /\ K d := by
 cases op <;> simp only [Zi6] at h <;> try exact h.elim
 case add =>
  split at h
  ·obtain ⟨hf, hk⟩ := h;have hf : k.wrap (x + y) = x + y := hf;exact ⟨_, .int k (x + y), by simp [binOp, Op.intArith, hf], Z3d rfl, hk⟩
  ·exact ⟨_, _, by simp [binOp, Op.intArith]; rfl, Z3d rfl, h⟩
 case sub =>
  split at h
  ·obtain ⟨hf, hk⟩ := h;have hf : k.wrap (x - y) = x - y := hf;exact ⟨_, .int k (x - y), by simp [binOp, Op.intArith, hf], Z3d rfl, hk⟩
  ·exact ⟨_, _, by simp [binOp, Op.intArith]; rfl, Z3d rfl, h⟩
 case mul =>
  split at h
  ·obtain ⟨hf, hk⟩ := h;have hf : k.wrap (x * y) = x * y := hf;exact ⟨_, .int k (x * y), by simp [binOp, Op.intArith, hf], Z3d rfl, hk⟩
  ·exact ⟨_, _, by simp [binOp, Op.intArith]; rfl, Z3d rfl, h⟩
 case quo =>
  obtain ⟨hz, hf, hk⟩ := h;have hz : y ≠ 0 := hz;have hf : k.wrap (x.tdiv y) = x.tdiv y := hf;exact ⟨_, .int k (x.tdiv y), by simp [binOp, Op.intDiv, hz, hf], Z3d rfl, hk⟩
 case rem =>
  obtain ⟨hz, hk⟩ := h;have hz : y ≠ 0 := hz;exact ⟨_, .int k (x.tmod y), by simp [binOp, Op.intDiv, hz], Z3d rfl, hk⟩
 case and => exact ⟨_, .int k (Zc0 .and k x y), by simp [binOp, Op.intBits, Zc0], Z3d rfl, h⟩
 case or => exact ⟨_, .int k (Zc0 .or k x y), by simp [binOp, Op.intBits, Zc0], Z3d rfl, h⟩
 case xor => exact ⟨_, .int k (Zc0 .xor k x y), by simp [binOp, Op.intBits, Zc0], Z3d rfl, h⟩
 case andNot => exact ⟨_, .int k (Zc0 .andNot k x y), by simp [binOp, Op.intBits, Zc0], Z3d rfl, h⟩
 case eql => exact ⟨_, .bool (Z25 .eql x y), by simp [binOp, Op.intCmp, Z25], Z3d rfl, h⟩
 case neq => exact ⟨_, .bool (Z25 .neq x y), by simp [binOp, Op.intCmp, Z25], Z3d rfl, h⟩
 case lss => exact ⟨_, .bool (Z25 .lss x y), by simp [binOp, Op.intCmp, Z25], Z3d rfl, h⟩
 case leq => exact ⟨_, .bool (Z25 .leq x y), by simp [binOp, Op.intCmp, Z25], Z3d rfl, h⟩
 case gtr => exact ⟨_, .bool (Z25 .gtr x y), by simp [binOp, Op.intCmp, Z25], Z3d rfl, h⟩
 case geq => exact ⟨_, .bool (Z25 .geq x y), by simp [binOp, Op.intCmp, Z25], Z3d rfl, h⟩
theorem Zdt {op : BinOp} {t : TypeId} {k k' : IntKind} {x y : Int} (hop : op = .shl ∨ op = .shr) (h : ar.nneg y /\ K (.v (.int k (ar.shift op k x y)))) :
  ∃ d v, (binOp op t (.int k x) (.int k' y)).run P w = .ok v w /\ VR F μ d v /\ K d := by
 obtain ⟨h0, hk⟩ := h;have h0 : 0 <= y := h0;refine ⟨_, .int k (Zlp op k x y), ?_, Z3d rfl, hk⟩;rcases hop with rfl | rfl <;> simp [binOp, Op.shift, Zlp, show ¬ y < 0 by omega]
theorem Zlt {op : BinOp} {t : TypeId} {x y : ByteArray} (h : Zjk ar op x y K) :
  ∃ d v, (binOp op t (.string x) (.string y)).run P w = .ok v w /\ VR F μ d v /\ K d := by
 cases op <;> simp only [Zjk] at h <;> try exact h.elim
 case add =>
  obtain ⟨hf, hk⟩ := h;have hf : x.size + y.size <= 9223372036854775807 := hf;refine ⟨_, .string (x ++ y), ?_, Z3d rfl, hk⟩;have : (Op.stringOp .add x y).run P w = .ok (.string (x ++ y)) w := by
   unfold Op.stringOp;simp only [];rw [if_neg]
   ·rfl
   ·have : IntKind.i64.max = 9223372036854775807 := rfl;rw [this]; omega
  simpa [binOp] using this
 case eql => exact ⟨_, .bool (x.toList == y.toList), by simp [binOp, Op.stringOp], Z3d rfl, h⟩
 case neq => exact ⟨_, .bool (!(x.toList == y.toList)), by simp [binOp, Op.stringOp], Z3d rfl, h⟩
theorem Z1e (hT : TOK P T) {t : TypeId} {e : TE} (he : Z1d T t = some e) : ∃ d, P.underlying t = some d /\ Zaw d = e.kc /\ e.el = (match d with | .slice e => some (none, e) | .array n e => some (some n, e) | _ => none) /\
  (match d with | .int k => some k | _ => none) = e.ik := by
 obtain ⟨i, d, z, h1, h2, h3, h4, h5, h6, h7, h8, h9, h10, h11, h12, h13, -⟩ := hT.at he;exact ⟨d, h2, h13.symm, h10, h12.symm⟩
theorem Za8 {op : BinOp} {t : TypeId} {x y : Value} {b : Bool} (hx : ∀ op, op = .eql ∨ op = .neq -> (binOp op t x y).run P w = .ok (.bool (if op = .eql then b else !b)) w) (h : eqK op K b) :
  ∃ d v, (binOp op t x y).run P w = .ok v w /\ VR F μ d v /\ K d := by
 cases op <;> simp only [eqK] at h <;> try exact h.elim
 ·exact ⟨_, _, hx .eql (.inl rfl), Z3d rfl, h⟩
 ·exact ⟨_, _, hx .neq (.inr rfl), Z3d rfl, h⟩
theorem Zi7 {t : TypeId} {x y : Value} {b : Bool} (h1 : (Op.equal t x y).run P w = .ok b w) (hi : ∀ op : BinOp, op = .eql ∨ op = .neq -> binOp op t x y = (match op with | .eql => do pure (.bool (<- Op.equal t x y)) | _ => do pure (.bool (!(<- Op.equal t x y))))) :
  ∀ op, op = .eql ∨ op = .neq -> (binOp op t x y).run P w = .ok (.bool (if op = .eql then b else !b)) w := fun op ho => by
 rw [hi op ho];rcases ho with rfl | rfl <;> simp [h1]
theorem Zb2 (hT : TOK P T) {t : TypeId} {e : TE} (he : Z1d T t = some e) (hk : e.kc = 3) {a : Option Addr} {n c : Nat} : (Op.equal t (.slice a n c) (.slice none 0 0)).run P w = .ok a.isNone w := by
 obtain ⟨d, hd, hkc, -⟩ := Z1e hT he;rw [hk] at hkc;obtain ⟨e', rfl⟩ : ∃ e', d = .slice e' := by cases d <;> simp [Zaw] at hkc; exact ⟨_, rfl⟩
 unfold Op.equal Op.maxDepth Op.equalIn;rw [Sem.run_bind, run_underlying hd w]
 cases a <;> rfl
theorem Z8x (hT : TOK P T) {op : BinOp} {t : TypeId} {e : TE} (he : Z1d T t = some e) (hk : e.kc = 3) {a : Option Addr} {n c : Nat} (hn : a = none -> n = 0) (h : NilAns n (eqK op K)) :
  ∃ d v, (binOp op t (.slice a n c) (.slice none 0 0)).run P w = .ok v w /\ VR F μ d v /\ K d := by
 exact Za8 (b := a.isNone) (Zi7 (Zb2 hT he hk) fun op ho => by rcases ho with rfl | rfl <;> rfl) (h.out _ (fun ha => hn (by simpa using ha)))
theorem VR.sl_inv {sz : Nat} {es : List D} {v : Value} (h : VR F μ (.sl sz es) v) : ∃ a c, v = .slice a es.length c /\ (a = none -> es.length = 0) := by
 cases h with
 | cl _ _ h =>
  cases h with
  | slE _ a c => exact ⟨a, c, rfl, fun _ => rfl⟩
  | sl _ _ b o c val => exact ⟨_, c, rfl, fun h => by cases h⟩
theorem VR.o_inv {k sz n : Nat} {v : Value} (h : VR F μ (.o k sz n) v) : ∃ a c, v = .slice a n c /\ (a = none -> n = 0) := by
 cases h with
 | cl _ _ h => cases h
 | o _ _ _ b m cap h hc hm => exact ⟨_, cap, rfl, fun h => by cases h⟩
 | oNil _ _ a h => exact ⟨a, 0, rfl, fun _ => rfl⟩
theorem VR.ifc_inv {t : TypeId} {d : D} {v : Value} (h : VR F μ (.ifc t d) v) : ∃ x, v = .iface t x /\ VR F μ d x := by
 cases h with
 | cl _ _ h => cases h with | ifc _ _ x h => exact ⟨x, rfl, .cl _ _ h⟩
 | ifc _ _ x h => exact ⟨x, rfl, h⟩
theorem Zef (hT : TOK P T) {t : TypeId} {e : TE} (he : Z1d T t = some e) {n : Nat} (hf : e.fl = some n) : P.eqGuardType P.depth t = false /\ Z3e P 6 t = some n /\ e.agg = Z3j P t := by
 obtain ⟨i, d, z, h1, h2, h3, h4, h5, h6, h7, h8, h9, h10, h11, h12, h13, h14, h15, h16⟩ := hT.at he;rw [hf] at h16
 split at h16
 ·cases h16
 ·rename_i hg
  refine ⟨by simpa using hg, h16.symm, ?_⟩;rw [h6]; unfold Z3j Z8d; rw [h2]; cases d <;> rfl
theorem Z97 {a : List Int} {v : Value} (h : VR F μ (.agg (a.map (fun x => .v (.int .i64 x)))) v) : v = .agg (a.map (Value.int .i64)).toArray := by
 have : ∃ vs, v = .agg vs /\ (a.map (fun x => D.v (.int .i64 x))).length = vs.size /\ ∀ (i : Nat) (c : D) (u : Value), (a.map (fun x => D.v (.int .i64 x)))[i]? = some c -> vs[i]? = some u -> VR F μ c u := by
  cases h with
  | cl _ _ hc => cases hc with | agg _ vs hl hh _ => exact ⟨vs, rfl, hl, fun i c v h1 h2 => .cl _ _ (hh i c v h1 h2)⟩
  | agg _ vs hl hh _ => exact ⟨vs, rfl, hl, hh⟩
 obtain ⟨vs, rfl, hl, hr⟩ := this
 congr 1
 apply Array.ext'
 apply List.ext_getElem?
 intro i;rw [Array.getElem?_toList]
 by_cases hi : i < vs.size
 ·have hi' : i < a.length := by rw [List.length_map] at hl; omega
  have e1 := hr i (.v (.int .i64 a[i])) vs[i] (by simp [hi']) (Array.getElem?_eq_getElem hi);rw [Array.getElem?_eq_getElem hi, e1.v_inv];simp [hi']
 ·rw [Array.getElem?_eq_none (by omega), List.getElem?_eq_none (by simp at hl ⊢; omega)]
theorem Zlu (hT : TOK P T) {op : BinOp} {t : TypeId} {x y : D} {vx vy : Value} (hx : VR F μ x vx) (hy : VR F μ y vy) (h : Zbd ar T op t K x y) :
  ∃ d v, (binOp op t vx vy).run P w = .ok v w /\ VR F μ d v /\ K d := by
 unfold Zbd at h
 split at h
 ·obtain rfl := hx.v_inv;obtain rfl := hy.v_inv
  split at h
  ·exact Zdt (.inl rfl) h
  ·exact Zdt (.inr rfl) h
  ·split at h
   ·rename_i hk; subst hk; exact Zls h
   ·exact h.elim
 ·obtain rfl := hx.v_inv;obtain rfl := hy.v_inv;exact Zlt h
 ·obtain rfl := hx.v_inv;obtain rfl := hy.v_inv
  split at h
  ·rename_i e he
   obtain ⟨d, hd, hkc, -⟩ := Z1e hT he;have hb : e.kc = 1 -> ∀ a b : Bool, (Op.equal t (.bool a) (.bool b)).run P w = .ok (a == b) w := fun hk a b => by
    rw [hk] at hkc;obtain rfl : d = .bool := by cases d <;> simp [Zaw] at hkc; rfl
    unfold Op.equal Op.maxDepth Op.equalIn;rw [Sem.run_bind, run_underlying hd w];rfl
   split at h
   ·rename_i hk
    exact ⟨_, .bool _, by simp [binOp, hb hk, ar], Z3d rfl, h⟩
   ·rename_i hk
    exact ⟨_, .bool _, by simp [binOp, hb hk, ar], Z3d rfl, h⟩
   ·exact h.elim
  ·exact h.elim
 ·obtain rfl := hy.v_inv
  split at h
  ·rename_i e he
   split at h
   ·rename_i hk
    obtain ⟨a, c, rfl, ha⟩ := hx.sl_inv;exact Z8x hT he hk ha h
   ·exact h.elim
  ·exact h.elim
 ·obtain rfl := hy.v_inv
  split at h
  ·rename_i e he
   split at h
   ·rename_i hk
    obtain ⟨a, c, rfl, ha⟩ := hx.o_inv;exact Z8x hT he hk ha h
   ·exact h.elim
  ·exact h.elim
 ·obtain rfl := hx.v_inv;obtain rfl := hy.v_inv
  split at h
  ·rename_i e he
   split at h
   ·rename_i hk
    exact Za8 (b := true) (Zi7 (Zb2 hT he hk) fun op ho => by rcases ho with rfl | rfl <;> rfl) h
   ·exact h.elim
  ·exact h.elim
 ·obtain rfl := hy.v_inv;obtain ⟨x, rfl, -⟩ := hx.ifc_inv
  split at h
  ·rename_i e he
   split at h
   ·rename_i hk
    obtain ⟨d, hd, hkc, -⟩ := Z1e hT he;rw [hk] at hkc;obtain ⟨e', rfl⟩ : ∃ e', d = .interface e' := by cases d <;> simp [Zaw] at hkc; exact ⟨_, rfl⟩
    refine Za8 (b := false) (Zi7 ?_ fun op ho => by rcases ho with rfl | rfl <;> rfl) h;unfold Op.equal Op.maxDepth Op.equalIn;rw [Sem.run_bind, run_underlying hd w];rfl
   ·exact h.elim
  ·exact h.elim
 ·split at h
  ·rename_i e he
   split at h
   ·rename_i n hf ha
    obtain ⟨a, b, rfl, rfl, la, lb, hk⟩ := h.out;obtain ⟨f1, f2, f3⟩ := Zef hT he hf;rw [ha] at f3;have va := Z97 hx;have vb := Z97 hy;subst va; subst vb;have heq := Z5c 6 9994 t n f2 a b w la lb;rw [<- f3] at heq;simp only [Z1k, if_true] at heq
    split at hk
    ·exact ⟨_, .bool _, by rw [run_eql_struct]; rw [show (10000 : Nat) = 9994 + 6 from rfl, heq]; rfl, Z3d rfl, hk⟩
    ·exact ⟨_, .bool _, by rw [run_neq_struct]; rw [show (10000 : Nat) = 9994 + 6 from rfl, heq]; rfl, Z3d rfl, hk⟩
    ·exact hk.elim
   ·exact h.elim
  ·exact h.elim
 ·exact h.elim
theorem Zp7 {op : UnOp} {x : D} {vx : Value} (hx : VR F μ x vx) (h : unA ar op K x) : ∃ d v, (Op.unary op vx).run P w = .ok v w /\ VR F μ d v /\ K d := by
 unfold unA at h
 split at h
 ·obtain rfl := hx.v_inv
  split at h
  ·exact ⟨_, .bool _, by simp [Op.unary, ar], Z3d rfl, h⟩
  ·exact h.elim
 ·obtain rfl := hx.v_inv
  rename_i k x
  split at h
  ·obtain ⟨hf, hk⟩ := h;have hf : k.wrap (-x) = -x := hf;exact ⟨_, .int k (-x), by simp [Op.unary, Op.intArith, hf], Z3d rfl, hk⟩
  ·exact h.elim
 ·exact h.elim
theorem Zjl (hT : TOK P T) {src dst : TypeId} {x : D} {vx : Value} (hx : VR F μ x vx) (h : Zeq ar T src dst K x) : ∃ d v, (convert src dst vx).run P w = .ok v w /\ VR F μ d v /\ K d := by
 unfold Zeq at h
 split at h
 ·obtain rfl := hx.v_inv
  split at h
  ·rename_i n e1 e2 h1 h2
   split at h
   ·rename_i k hk1 hk2
    obtain ⟨d1, hd1, hc1, -⟩ := Z1e hT h1;obtain ⟨d2, hd2, -, -, hi2⟩ := Z1e hT h2;rw [hk1] at hc1;rw [hk2] at hi2;obtain ⟨k1, rfl⟩ : ∃ k1, d1 = .int k1 := by cases d1 <;> simp [Zaw] at hc1; exact ⟨_, rfl⟩
    obtain rfl : d2 = .int k := by cases d2 <;> simp at hi2; rw [hi2]
    refine ⟨_, .int k (k.wrap _), ?_, Z3d rfl, h⟩;unfold convert;rw [Sem.run_bind, run_underlying hd1 w];simp only [Result.andThen_ok, Sem.run_bind, run_underlying hd2 w];rfl
   ·exact h.elim
  ·exact h.elim
 ·exact h.elim
theorem Zi8 {n : Nat} {x : D} {vx : Value} (hx : VR F μ x vx) (h : Zer ar n K x) : ∃ d a, vx = .pointer (some a) /\ VR F μ d (.pointer (some (a.add n))) /\ K d := by
 unfold Zer at h
 split at h
 ·cases hx with
  | cl _ _ hc => cases hc
  | b _ _ b m hμ => exact ⟨_, _, rfl, by rw [add_lit]; exact .b _ _ b m hμ, h⟩
 ·cases hx with
  | cl _ _ hc => cases hc
  | bs _ _ b m hμ => exact ⟨_, _, rfl, by rw [add_lit]; exact .bs _ _ b m hμ, h⟩
 ·cases hx with
  | cl _ _ hc => cases hc
  | p _ _ _ _ b m hμ => exact ⟨_, _, rfl, by rw [add_lit, Nat.add_assoc]; exact .p _ _ _ _ b m hμ, h⟩
 ·cases hx with
  | cl _ _ hc => cases hc with | ip _ _ b o _ _ val hz hf hv => exact ⟨_, _, rfl, by rw [add_lit, Nat.add_assoc]; exact .cl _ _ (.ip _ _ b o _ _ val hz hf hv), h⟩
 ·cases hx with
  | cl _ _ hc => cases hc with | cb _ b o _ val hf hv => exact ⟨_, _, rfl, by rw [add_lit, Nat.add_assoc]; exact .cl _ _ (.cb _ b o _ val hf hv), h⟩
 ·exact h.elim
theorem Zlv (hT : TOK P T) {t : TypeId} {e : TE} (he : Z1d T t = some e) {f : Nat} {off size agg : Nat} (hf : e.fds[f]? = some (off, size, agg)) :
  ∃ fs fl, P.underlying t = some (.struct fs) /\ fs[f]? = some fl /\ fl.offset = off /\ P.cellsOf fl.type = size /\ ((P.underlying fl.type).map fun d => if Z8d d then 1 else 0).getD 2 = agg := by
 obtain ⟨i, d, z, h1, h2, h3, h4, h5, h6, h7, h8, h9, h10, h11, -⟩ := hT.at he;rw [h11] at hf
 cases d <;> try (simp at hf; done)
 rename_i fs
 simp only [List.getElem?_map, Option.map_eq_some_iff, Prod.mk.injEq, Array.getElem?_toList] at hf;obtain ⟨fl, h, e1, e2, e3⟩ := hf;exact ⟨fs, fl, h2, h, e1, e2, e3⟩
theorem run_sizeOf {t : TypeId} {n : Nat} (h : P.cellsOf t = n + 1) : (sizeOf t).run P w = .ok (n + 1) w := by
 unfold Program.cellsOf at h
 cases hq : P.info? t with
 | none => simp [hq] at h
 | some i => simp [hq] at h; simp [sizeOf, typeInfo, hq, h]
theorem Zlw (hT : TOK P T) {t : TypeId} {f : Nat} {x : D} {vx : Value} (hx : VR F μ x vx) (h : Zlq ar T t f K x) : ∃ d v, (Instr.fieldAt t vx f).run P w = .ok v w /\ VR F μ d v /\ K d := by
 unfold Zlq at h
 split at h
 ·rename_i e he
  split at h
  ·rename_i off size agg hf
   split at h
   ·exact h.elim
   ·rename_i n
    obtain ⟨fs, fl, h1, h2, rfl, h4, -⟩ := Zlv hT he hf;obtain ⟨d, a, rfl, hv, hk⟩ := Zi8 hx h;refine ⟨d, _, ?_, hv, hk⟩;unfold Instr.fieldAt;rw [Sem.run_bind, run_underlying h1 w];simp [h2, Instr.sureAddr, fieldPlace, run_sizeOf h4]
  ·exact h.elim
 ·exact h.elim
theorem Zjm {t : TypeId} {agg : Bool} {off n : Nat} {cs : List D} {vs : Array Value} (hl : cs.length = vs.size) (hv : ∀ (i : Nat) (c : D) (v : Value), cs[i]? = some c -> vs[i]? = some v -> VR F μ c v)
  (ho : ∀ (i : Nat) (v : Value), vs[i]? = some v -> v.oneCell' = true) (ha : (isAgg t).run P w = .ok agg w) (hn : agg = true -> (sizeOf t).run P w = .ok n w) (h : Zds agg off n cs K) : ∃ d v, (part t vs off).run P w = .ok v w /\ VR F μ d v /\ K d := by
 unfold Zds at h
 split at h
 ·split at h
  ·rename_i hb
   have hb := Nat.le_of_ble_eq_true hb;refine ⟨_, .agg (vs.extract off (off + n)), ?_, .agg _ _ (by simp; omega) (fun i c v hi hj => ?_) (fun i v hj => ?_), h⟩
   ·unfold part; rw [Sem.run_bind, ha]; simp [hn rfl]
   ·rw [List.getElem?_take] at hi;rw [Array.getElem?_extract] at hj
    split at hi
    ·rw [List.getElem?_drop] at hi
     split at hj
     ·exact hv _ _ _ hi hj
     ·cases hj
    ·cases hi
   ·rw [Array.getElem?_extract] at hj
    split at hj
    ·exact ho _ _ hj
    ·cases hj
  ·exact h.elim
 ·rw [Zc1] at h
  split at h
  ·rename_i x hx
   have hlt : off < vs.size := by have := (List.getElem?_eq_some_iff.1 hx).1; omega
   exact ⟨x, vs[off], by unfold part; rw [Sem.run_bind, ha]; simp [hlt], hv off x _ hx (Array.getElem?_eq_getElem hlt), h⟩
  ·exact h.elim
theorem VR.agg_inv {cs : List D} {v : Value} (h : VR F μ (.agg cs) v) : ∃ vs : Array Value, v = .agg vs /\ cs.length = vs.size /\ (∀ (i : Nat) (c : D) (v : Value), cs[i]? = some c -> vs[i]? = some v -> VR F μ c v) /\ (∀ (i : Nat) (v : Value), vs[i]? = some v -> v.oneCell' = true) := by
 cases h with
 | cl _ _ h => cases h with | agg _ vs hl hv ho => exact ⟨vs, rfl, hl, fun i c v h1 h2 => .cl _ _ (hv i c v h1 h2), ho⟩
 | agg _ vs hl hv ho => exact ⟨vs, rfl, hl, hv, ho⟩
theorem VR.arr_inv {cs : List D} {v : Value} (h : VR F μ (.arr cs) v) : ∃ vs : Array Value, v = .agg vs /\ cs.length = vs.size /\ (∀ (i : Nat) (c : D) (v : Value), cs[i]? = some c -> vs[i]? = some v -> VR F μ c v) /\ (∀ (i : Nat) (v : Value), vs[i]? = some v -> v.oneCell' = true) := by
 cases h with
 | cl _ _ h => cases h with | arr _ vs hl hv ho => exact ⟨vs, rfl, hl, fun i c v h1 h2 => .cl _ _ (hv i c v h1 h2), ho⟩
 | arr _ vs hl hv ho => exact ⟨vs, rfl, hl, hv, ho⟩
theorem VR.tup_inv {cs : List D} {v : Value} (h : VR F μ (.tup cs) v) : ∃ vs : Array Value, v = .tuple vs /\ cs.length = vs.size /\ (∀ (i : Nat) (c : D) (v : Value), cs[i]? = some c -> vs[i]? = some v -> VR F μ c v) := by
 cases h with
 | cl _ _ h => cases h with | tup _ vs hl hv => exact ⟨vs, rfl, hl, fun i c v h1 h2 => .cl _ _ (hv i c v h1 h2)⟩
 | tup _ vs hl hv => exact ⟨vs, rfl, hl, hv⟩
theorem Zi9 {t : TypeId} {d : TypeDesc} (h : P.underlying t = some d) : (isAgg t).run P w = .ok (Z8d d) w := by
 unfold isAgg; rw [Sem.run_bind, run_underlying h w]; cases d <;> rfl
theorem Zjn {t : TypeId} {d : TypeDesc} (h : P.underlying t = some d) : (sizeOf t).run P w = .ok (P.cellsOf t) w := by
 have : ∃ i, P.info? t = some i := by
  unfold Program.underlying at h
  split at h
  ·exact ⟨_, ‹_›⟩
  ·exact ⟨_, ‹_›⟩
  ·cases h
 obtain ⟨i, hi⟩ := this;simp [sizeOf, typeInfo, hi, Program.cellsOf]
theorem Zia (hT : TOK P T) {t : TypeId} {f : Nat} {x : D} {vx : Value} (hx : VR F μ x vx) (h : Zbe T t f K x) :
  ∃ d v, (Instr.field t vx f).run P w = .ok v w /\ VR F μ d v /\ K d := by
 have main : ∀ {cs : List D} {vs : Array Value} {e : TE} {off size : Nat} {agg : Bool}, Z1d T t = some e -> e.fds[f]? = some (off, size, if agg then 1 else 0) -> cs.length = vs.size ->
   (∀ (i : Nat) (c : D) (v : Value), cs[i]? = some c -> vs[i]? = some v -> VR F μ c v) -> (∀ (i : Nat) (v : Value), vs[i]? = some v -> v.oneCell' = true) -> Zds agg off size cs K ->
   ∃ d v, (Instr.field t (.agg vs) f).run P w = .ok v w /\ VR F μ d v /\ K d := fun {cs vs e off size agg} he hf hl hv ho h => by
  obtain ⟨fs, fl, h1, h2, rfl, rfl, h5⟩ := Zlv hT he hf;have hu : ∃ d, P.underlying fl.type = some d /\ Z8d d = agg := by
   cases hq : P.underlying fl.type with
   | none => rw [hq] at h5; cases agg <;> simp at h5
   | some d => rw [hq] at h5; refine ⟨d, rfl, ?_⟩; cases agg <;> cases hd : Z8d d <;> simp [hd] at h5 <;> rfl
  obtain ⟨d, hd, ha⟩ := hu;obtain ⟨x, v, g1, g2, g3⟩ := Zjm (P := P) (w := w) hl hv ho (by rw [<- ha]; exact Zi9 hd) (fun _ => Zjn hd) h;refine ⟨x, v, ?_, g2, g3⟩;unfold Instr.field;rw [Sem.run_bind, run_underlying h1 w];simp [h2, asAgg, g1]
 unfold Zbe at h
 split at h
 ·obtain ⟨vs, rfl, hl, hv, ho⟩ := hx.agg_inv
  split at h
  ·rename_i e he
   split at h
   ·rename_i hf; exact main he (agg := true) hf hl hv ho h
   ·rename_i hf; exact main he (agg := false) hf hl hv ho h
   ·exact h.elim
  ·exact h.elim
 ·exact h.elim
theorem Zlx {i : Nat} {x : D} {vx : Value} (hx : VR F μ x vx) (h : Zp6 i K x) : ∃ d v, (Instr.extract vx i).run P w = .ok v w /\ VR F μ d v /\ K d := by
 unfold Zp6 at h
 split at h
 ·obtain ⟨vs, rfl, hl, hv⟩ := hx.tup_inv;rw [Zc1] at h;unfold opt at h
  split at h
  ·rename_i d hd
   have hlt : i < vs.size := by have := (List.getElem?_eq_some_iff.1 hd).1; omega
   exact ⟨d, vs[i], by simp [Instr.extract, hlt], hv i d _ hd (Array.getElem?_eq_getElem hlt), h⟩
  ·exact h.elim
 ·exact h.elim
end
end Go.Abs

namespace Go.Abs
open Go
def Zjo (K : D -> Prop) (c a b : Option D) : Prop :=
 match c with
 | some (.v (.bool true)) => opt a K
 | some (.v (.bool false)) => opt b K
 | _ => False
def Zly (A : Ar) (T : TT) (t : TypeId) (K : D -> Prop) (d : D) : Prop :=
 match Z1d T t with
 | some e =>
  match e.kc, d with
  | 3, .sl _ es => K (.v (.int .i64 (A.oi (A.len es))))
  | 3, .o _ _ n => K (.v (.int .i64 (A.oi n)))
  | 3, .v (.slice none 0 0) => K (.v (.int .i64 0))
  | 2, .v (.string s) => K (.v (.int .i64 (A.oi (A.slen s))))
  | _, _ => False
 | none => False
def mm (A : Ar) (mx : Bool) (k : IntKind) (x : Int) (K : D -> Prop) : List (Option D) -> Prop
 | [] => K (.v (.int k x))
 | some (.v (.int k' y)) :: r => if k = k' then (match mx with | true => mm A mx k (A.max x y) K r | false => mm A mx k (A.min x y) K r) else False
 | _ :: _ => False
def mmA (A : Ar) (mx : Bool) (K : D -> Prop) : List (Option D) -> Prop
 | some (.v (.int k x)) :: r => mm A mx k x K r
 | _ => False
def Z34 : List (Option D) -> Option (List D)
 | [] => some []
 | some d :: r => (match Z34 r with | some l => some (d :: l) | none => none)
 | none :: _ => none
def Zlz (K : D -> Prop) (fn : Fn) (first : Array Operand) (caps : List (Option D)) : Prop :=
 match fn, first.toList, Z34 caps with
 | .func f, [], some cs => K (.fn f cs)
 | _, _, _ => False
def Zm0 (T : TT) (t : TypeId) (K : D -> Prop) (d : D) : Prop :=
 match Z1d T t with
 | some e => (match e.kc with | 7 => False | _ => K (.ifc t d))
 | none => False
def intOf : Option D -> Option Int
 | some (.v (.int _ n)) => some n
 | _ => none
def Zjp (A : Ar) (T : TT) (t : TypeId) (lo hi : Option (Option D)) (K : D -> Prop) : D -> Prop
 | .sl sz es =>
  match Z1d T t with
  | some e =>
   match e.el with
   | some (none, el) =>
    match Z1d T el with
    | some e2 =>
     match Nat.beq sz e2.size, lo, hi with
     | true, none, none => K (.sl sz es)
     | true, some l, none => (match intOf l with | some l => A.sub2OK es l (A.oi (A.len es)) /\ K (.sl sz (A.sub2 es l (A.oi (A.len es)))) | none => False)
     | true, none, some h => (match intOf h with | some h => A.sub2OK es 0 h /\ K (.sl sz (A.sub2 es 0 h)) | none => False)
     | true, some l, some h => (match intOf l, intOf h with | some l, some h => A.sub2OK es l h /\ K (.sl sz (A.sub2 es l h)) | _, _ => False)
     | false, _, _ => False
    | none => False
   | _ => False
  | none => False
 | .v (.string s) =>
  match Z1d T t with
  | some e =>
   match e.kc, lo, hi with
   | 2, none, none => K (.v (.string s))
   | 2, some l, none => (match intOf l with | some l => A.ssubOK s l (A.oi (A.slen s)) /\ K (.v (.string (A.ssub s l (A.oi (A.slen s))))) | none => False)
   | 2, none, some h => (match intOf h with | some h => A.ssubOK s 0 h /\ K (.v (.string (A.ssub s 0 h))) | none => False)
   | 2, some l, some h => (match intOf l, intOf h with | some l, some h => A.ssubOK s l h /\ K (.v (.string (A.ssub s l h))) | _, _ => False)
   | _, _, _ => False
  | none => False
 | .v (.slice (some ⟨b, 0, none⟩) n cap) =>
  match Z1d T t with
  | some e =>
   match e.el with
   | some (none, el) =>
    match Z1d T el with
    | some e2 =>
     match lo, hi with
     | some l, none => (match intOf l with | some l => A.tlOK l n cap /\ K (.v (A.tl b l e2.size n cap)) | none => False)
     | none, some h => (match intOf h with | some h => A.hdOK h cap /\ K (.v (A.hd b h cap)) | none => False)
     | _, _ => False
    | none => False
   | _ => False
  | none => False
 | _ => False
def Z7l (cs : List D) (off : Nat) (xs : List D) : List D := cs.take off ++ xs ++ cs.drop (off + xs.length)
def Zjq : D -> Bool
 | .agg _ | .arr _ | .tup _ | .any => false
 | _ => true
def Z35 : D -> Option (List D)
 | .agg cs => some cs
 | .arr _ => none
 | .tup _ => none
 | .any => none
 | d => some [d]
def Zet (place : Nat -> Option (Nat × Nat)) : List D -> List (Nat × Option D) -> Option (List D)
 | cs, [] => some cs
 | cs, (i, some d) :: r =>
  match place i, Z35 d with
  | some (off, n), some xs => (match Nat.beq xs.length n, Nat.ble (off + n) cs.length with | true, true => Zet place (Z7l cs off xs) r | _, _ => none)
  | _, _ => none
 | _, (_, none) :: _ => none
def Zib (e : TE) (i : Nat) : Option (Nat × Nat) := match e.fds[i]? with | some (off, n, _) => some (off, n) | none => none
def Zm1 (T : TT) (t : TypeId) (parts : List (Nat × Option D)) (K : D -> Prop) : Prop :=
 match Z1d T t with
 | some e =>
  match e.zero with
  | .agg zs =>
   match e.kc with
   | 8 => (match e.ok with | false => False | true => match Zet (Zib e) zs parts with | some cs => K (.agg cs) | none => False)
   | 9 =>
    match e.el with
    | some (some _, el) => (match Z1d T el with | some e2 => (match Zet (fun i => some (i * e2.size, e2.size)) zs parts with | some cs => K (.agg cs) | none => False) | none => False)
    | _ => False
   | _ => False
  | _ => False
 | none => False
def Zm2 (T : TT) (asserted : TypeId) (ok : Bool) (K : D -> Prop) : D -> Prop
 | .ifc t d =>
  match Z1d T asserted with
  | some e =>
   match e.kc with
   | 7 => False
   | _ =>
    match decide (t = asserted), ok with
    | true, true => K (.tup [d, .v (.bool true)])
    | true, false => K d
    | false, true => K (.tup [e.zero, .v (.bool false)])
    | false, false => False
  | none => False
 | .v .nilIface =>
  match Z1d T asserted with
  | some e =>
   match e.kc, ok with
   | 7, _ => False
   | _, true => K (.tup [e.zero, .v (.bool false)])
   | _, false => False
  | none => False
 | _ => False
def Zr0 : D -> Bool
 | .sl _ _ => true
 | .o _ _ _ => true
 | .z0 => true
 | .v (.slice none 0 0) => true
 | _ => false
def Zeu (T : TT) (t : TypeId) (lo : Option Operand) (hi : Option (Option D)) (mx : Option D) (K : D -> Prop) (d : D) : Prop :=
 match Z1d T t, Zr0 d, lo with
 | some e, true, none =>
  match e.el with
  | some (none, el) =>
   match Z1d T el, hi with
   | some _, some h =>
    match intOf h, intOf mx with
    | some (.ofNat 0), some (.ofNat 0) => K .z0
    | _, _ => False
   | _, _ => False
  | _ => False
 | _, _, _ => False
def Zu7 (kn : Nat) (d : D) (l : List Int) : Prop :=
 match kn, l with
 | 0, [x] => d = .v (.int .i64 x)
 | n + 1, l => d = .agg (l.map (fun x => .v (.int .i64 x))) /\ l.length = n + 1
 | _, _ => False
structure KeyIs (kn : Nat) (d : D) (K : List Int -> Prop) : Prop where
 out : ∃ l, Zu7 kn d l /\ K l
def Zc3 (T : TT) (t : TypeId) : Option (Nat × TE) :=
 match Z1d T t with
 | some e =>
  match e.mp with
  | some (kt, et) =>
   match Z1d T kt, Z1d T et with
   | some ek, some ee => (match ek.fl, ek.agg with | some (n + 1), true => some (n + 1, ee) | some 1, false => some (0, ee) | _, _ => none)
   | _, _ => none
  | none => none
 | none => none
def okA (ok : Bool) (K : D -> Prop) (d : D) (b : Bool) : Prop := match ok with | true => K (.tup [d, .v (.bool b)]) | false => K d
def Zea (A : Ar) (T : TT) (H : List Blk) (t : TypeId) (ok : Bool) (K : D -> Prop) (key : D) : D -> Prop
 | .v (.map none) => (match Zc3 T t with | some (kn, ee) => KeyIs kn key fun _ => okA ok K ee.zero false | none => False)
 | .mv k =>
  match Zc3 T t, Z1m H k with
  | some (kn, ee), some (.ob (.mp kn' ents)) => (match Nat.beq kn kn' with | true => KeyIs kn key fun l => Need (A.mget ents l ee.zero) fun d => okA ok K d (A.mhas ents l) | false => False)
  | some (kn, ee), some (.ob (.mpx kn' ents _ _)) => (match Nat.beq kn kn' with | true => KeyIs kn key fun l => Need (A.mget ents l ee.zero) fun d => okA ok K d (A.mhas ents l) | false => False)
  | _, _ => False
 | _ => False
def Zr1 : Operand -> Bool
 | .const _ => true
 | _ => false
def Z1q (A : Ar) (T : TT) (s : St) (K : D -> Prop) : Op -> Prop
 | .move x => opt (evo s.env x) K
 | .assign x => opt (evo s.env x) K
 | .pick c a b => Zjo K (evo s.env c) (evo s.env a) (evo s.env b)
 | .load t a => (match Z1d T t, evo s.env a with | some e, some d => ldP A s.H e.agg e.size K d | _, _ => False)
 | .nilCheck x => (match evo s.env x with | some d => (match Zqz d with | true => K d | false => False) | none => False)
 | .binOp op t x y _ =>
  match evo s.env x, evo s.env y with
  | some (.v .nilIface), some (.v .nilIface) => (match Zr1 y, Z1d T t with | true, some e => (match e.kc with | 7 => eqK op K true | _ => False) | _, _ => False)
  | some a, some b => Zbd A T op t K a b
  | _, _ => False
 | .lookup t x i ok => (match evo s.env x, evo s.env i with | some a, some b => Zea A T s.H t ok K b a | _, _ => False)
 | .unOp op _ x => (match evo s.env x with | some d => unA A op K d | none => False)
 | .convert src dst x => (match evo s.env x with | some d => Zeq A T src dst K d | none => False)
 | .makeInterface t x => (match evo s.env x with | some d => Zm0 T t K d | none => False)
 | .makeFunc fn first caps => Zlz K fn first (caps.toList.map (evo s.env))
 | .build t parts => Zm1 T t (parts.toList.map fun (i, x) => (i, evo s.env x)) K
 | .fieldAddr t x f => (match evo s.env x with | some d => Zlq A T t f K d | none => False)
 | .field t x f => (match evo s.env x with | some d => Zbe T t f K d | none => False)
 | .indexAddr t x i => (match evo s.env x, evo s.env i with | some a, some b => Zlr A T t (Zr1 i) K a b | _, _ => False)
 | .index t x i => (match evo s.env x, evo s.env i with | some a, some b => Z96 A T t K a b | _, _ => False)
 | .extract x i => (match evo s.env x with | some d => Zp6 i K d | none => False)
 | .slice t x lo hi none => (match evo s.env x with | some d => Zjp A T t (lo.map (evo s.env)) (hi.map (evo s.env)) K d | none => False)
 | .slice t x lo hi (some mx) => (match evo s.env x with | some d => Zeu T t lo (hi.map (evo s.env)) (evo s.env mx) K d | none => False)
 | .typeAssert x _ t ok => (match evo s.env x with | some d => Zm2 T t ok K d | none => False)
 | .call { callee := .builtin .len, args, argTypes } => (match args.toList, argTypes.toList with | [x], [t] => (match evo s.env x with | some d => Zly A T t K d | none => False) | _, _ => False)
 | .call { callee := .builtin .max, args, .. } => mmA A true K (args.toList.map (evo s.env))
 | .call { callee := .builtin .min, args, .. } => mmA A false K (args.toList.map (evo s.env))
 | _ => False
section
variable {P : Program} {T : TT} {F : Fz} {μ : Mu} {w : World} {K : D -> Prop}
theorem Zic {esz : Nat} {lit : Bool} {i : Int} {x : D} {vx : Value} (hx : VR F μ x vx) (h : Zes ar esz lit i K x) :
  ∃ d a, vx = .pointer (some a) /\ VR F μ d (.pointer (some (a.add (i.toNat * esz)))) /\ K d := by
 unfold Zes at h
 split at h
 ·cases hx with
  | cl _ _ hc => cases hc
  | b _ _ b m hμ =>
   split at h
   ·exact ⟨_, _, rfl, by rw [add_lit]; exact .b _ _ b m hμ, h⟩
   ·exact ⟨_, _, rfl, by rw [add_lit]; exact .bs _ _ b m hμ, h⟩
 ·cases hx with
  | cl _ _ hc => cases hc
  | bs _ _ b m hμ => exact ⟨_, _, rfl, by rw [add_lit]; exact .bs _ _ b m hμ, h⟩
 ·exact h.elim
theorem Z61 (hT : TOK P T) {t el : TypeId} {e : TE} (he : Z1d T t = some e) (hel : e.el = some (none, el)) : P.underlying t = some (.slice el) := by
 obtain ⟨d, hd, -, h, -⟩ := Z1e hT he;rw [hel] at h
 cases d <;> simp at h
 rw [hd, h]
theorem Zev (hT : TOK P T) {t el n : Nat} {e : TE} (he : Z1d T t = some e) (hel : e.el = some (some n, el)) : P.underlying t = some (.array n el) := by
 obtain ⟨d, hd, -, h, -⟩ := Z1e hT he;rw [hel] at h
 cases d <;> simp at h
 rw [hd, h.1, h.2]
theorem VR.o_real {k sz n : Nat} {v : Value} (h : VR F μ (.o k sz n) v) (hn : 0 < n) : ∃ b m cap, v = .slice (some ⟨b, 0, none⟩) n cap /\ μ k = some (some (b, m)) /\ n <= cap /\ cap * sz <= m := by
 cases h with
 | cl _ _ h => cases h
 | o _ _ _ b m cap h hc hm => exact ⟨b, m, cap, rfl, h, hc, hm⟩
 | oNil => omega
theorem Zm3 (hT : TOK P T) {t : TypeId} {lit : Bool} {x y : D} {vx vy : Value} (hx : VR F μ x vx) (hy : VR F μ y vy) (h : Zlr ar T t lit K x y) :
  ∃ d v, (Instr.indexAt t vx vy).run P w = .ok v w /\ VR F μ d v /\ K d := by
 unfold Zlr at h
 split at h
 ·rename_i i
  obtain rfl := hy.v_inv
  split at h
  ·rename_i e he
   split at h
   ·rename_i el hel
    split at h
    ·rename_i e2 he2
     have hu := Z61 hT he hel;have hs := Z6i (w := w) hT he2
     split at h
     ·rename_i sz es
      split at h
      ·rename_i hsz
       obtain rfl := Nat.eq_of_beq_eq_true hsz;obtain ⟨hin, hk⟩ := h;have hin : 0 <= i /\ i < es.length := hin
       cases hx with
       | cl _ _ hc =>
        cases hc with
        | slE => simp at hin; omega
        | sl _ _ b o c val hc hz hf hv =>
         refine ⟨_, .pointer (some ⟨b, o + i.toNat * e2.size + 0, none⟩), ?_, .cl _ _ (.ip _ es b o i.toNat 0 val hz hf hv), hk⟩;unfold Instr.indexAt;simp [asIntOf, run_underlying hu w, hin.1, hin.2, hs, add_lit]
      ·exact h.elim
     ·rename_i k sz n
      split at h
      ·rename_i hsz
       obtain rfl := Nat.eq_of_beq_eq_true hsz;obtain ⟨hin, hk⟩ := h;have hin : 0 <= i /\ i < n := hin;obtain ⟨b, m, cap, rfl, hμ, -, -⟩ := hx.o_real (by omega);refine ⟨_, .pointer (some ⟨b, i.toNat * e2.size + 0, none⟩), ?_, .p k _ i.toNat 0 b m hμ, hk⟩;unfold Instr.indexAt;simp [asIntOf, run_underlying hu w, hin.1, hin.2, hs, add_lit]
      ·exact h.elim
     ·exact h.elim
    ·exact h.elim
   ·rename_i n el hel
    split at h
    ·rename_i e2 he2
     have hu := Zev hT he hel;have hs := Z6i (w := w) hT he2;obtain ⟨hin, hk⟩ := h;have hin : 0 <= i /\ i < n := hin;obtain ⟨d, a, rfl, hd, hk⟩ := Zic hx hk;refine ⟨d, _, ?_, hd, hk⟩;unfold Instr.indexAt;simp [asIntOf, run_underlying hu w, hin.1, hin.2, hs, Instr.sureAddr]
    ·exact h.elim
   ·exact h.elim
  ·exact h.elim
 ·exact h.elim
theorem Zid (hT : TOK P T) {t : TypeId} {x y : D} {vx vy : Value} (hx : VR F μ x vx) (hy : VR F μ y vy) (h : Z96 ar T t K x y) :
  ∃ d v, (Instr.index t vx vy).run P w = .ok v w /\ VR F μ d v /\ K d := by
 have arrc : ∀ {cs : List D} {vs : Array Value} {i : Int}, cs.length = vs.size -> (∀ (i : Nat) (c : D) (v : Value), cs[i]? = some c -> vs[i]? = some v -> VR F μ c v) ->
   (match Z1d T t with
    | some e => (match e.el with | some (some n, el) => (match Z1d T el with | some e2 => (match e2.agg, e2.size with | false, 1 => ar.inb i n /\ Need (ar.get cs (ar.tn i)) K | _, _ => False) | none => False) | _ => False)
    | none => False) -> ∀ k, ∃ d v, (Instr.index t (.agg vs) (.int k i)).run P w = .ok v w /\ VR F μ d v /\ K d := fun {cs vs i} hl hv h k => by
  split at h
  ·rename_i e he
   split at h
   ·rename_i n el hel
    split at h
    ·rename_i e2 he2
     split at h
     ·rename_i hag hsz
      obtain ⟨hin, hk⟩ := h;have hin : 0 <= i /\ i < n := hin;obtain ⟨d, hd, hk⟩ := hk.out;have hd : cs[i.toNat]? = some d := hd;have hlt : i.toNat < vs.size := by have := (List.getElem?_eq_some_iff.1 hd).1; omega
      refine ⟨d, vs[i.toNat], ?_, hv _ d _ hd (Array.getElem?_eq_getElem hlt), hk⟩;have hs := Z6i (w := w) hT he2;have ha := Zc2 (w := w) hT he2;rw [hsz] at hs;rw [hag] at ha;unfold Instr.index;simp [asIntOf, run_underlying (Zev hT he hel) w, hin.1, hin.2, hs, part, ha, hlt]
     ·exact h.elim
    ·exact h.elim
   ·exact h.elim
  ·exact h.elim
 unfold Z96 at h
 split at h
 ·rename_i s k i
  obtain rfl := hx.v_inv;obtain rfl := hy.v_inv
  split at h
  ·rename_i e he
   split at h
   ·rename_i hk
    obtain ⟨hin, hk⟩ := h;have hin : 0 <= i /\ i < s.size := hin;obtain ⟨d, hd, hkc, -⟩ := Z1e hT he;rw [‹e.kc = 2›] at hkc;obtain rfl : d = .string := by cases d <;> simp [Zaw] at hkc; rfl
    have hlt : i.toNat < s.data.size := by have : s.size = s.data.size := rfl; omega
    refine ⟨_, .int .u8 (s.data[i.toNat]).toNat, ?_, ?_, hk⟩
    ·unfold Instr.index;have hg : s[i.toNat]? = some (s.data[i.toNat]) := by
      show (if h : i.toNat < s.size then some _ else none) = _;rw [dif_pos (show i.toNat < s.size from hlt)]; rfl
     simp [asIntOf, run_underlying hd w, hin.1, hg]
    ·have : ar.sget s (ar.tn i) = ((s.data[i.toNat]).toNat : Int) := by
      show ((Zqy s i.toNat : Nat) : Int) = _;unfold Zqy; rw [Array.getElem?_eq_getElem hlt]; rfl
     rw [this]; exact Z3d rfl
   ·exact h.elim
  ·exact h.elim
 ·obtain rfl := hy.v_inv;obtain ⟨vs, rfl, hl, hv, -⟩ := hx.agg_inv;exact arrc hl hv h _
 ·obtain rfl := hy.v_inv;obtain ⟨vs, rfl, hl, hv, -⟩ := hx.arr_inv;exact arrc hl hv h _
 ·exact h.elim
theorem Zm4 (hT : TOK P T) {t ty : TypeId} {x : D} {vx : Value} (hx : VR F μ x vx) (h : Zly ar T t K x) : ∃ d v, (Builtin.len_ #[t] ty #[vx]).run P w = .ok v w /\ VR F μ d v /\ K d := by
 unfold Zly at h
 split at h
 ·rename_i e he
  obtain ⟨d, hd, hkc, -⟩ := Z1e hT he;have sl : e.kc = 3 -> ∃ e', d = .slice e' := fun hk => by rw [hk] at hkc; cases d <;> simp [Zaw] at hkc; exact ⟨_, rfl⟩
  split at h
  ·rename_i hk
   obtain ⟨e', rfl⟩ := sl hk;obtain ⟨a, c, rfl, -⟩ := hx.sl_inv;exact ⟨_, _, by simp [Builtin.len_, run_underlying hd w, goInt]; rfl, Z3d rfl, h⟩
  ·rename_i hk
   obtain ⟨e', rfl⟩ := sl hk;obtain ⟨a, c, rfl, -⟩ := hx.o_inv;exact ⟨_, _, by simp [Builtin.len_, run_underlying hd w, goInt]; rfl, Z3d rfl, h⟩
  ·rename_i hk
   obtain ⟨e', rfl⟩ := sl hk;obtain rfl := hx.v_inv;exact ⟨_, .int .i64 0, by simp [Builtin.len_, run_underlying hd w, goInt], Z3d rfl, h⟩
  ·rename_i s hk
   obtain rfl : d = .string := by rw [hk] at hkc; cases d <;> simp [Zaw] at hkc <;> rfl
   obtain rfl := hx.v_inv;exact ⟨_, .int .i64 s.size, by simp [Builtin.len_, run_underlying hd w, goInt], Z3d rfl, h⟩
  ·exact h.elim
 ·exact h.elim
end
end Go.Abs

namespace Go.Abs
open Go
section
variable {P : Program} {T : TT} {F : Fz} {μ : Mu} {w : World} {K : D -> Prop}
def VRL (F : Fz) (μ : Mu) : List D -> List Value -> Prop
 | [], [] => True
 | d :: ds, v :: vs => VR F μ d v /\ VRL F μ ds vs
 | _, _ => False
theorem VRL.len : ∀ {ds : List D} {vs : List Value}, VRL F μ ds vs -> ds.length = vs.length
 | [], [], _ => rfl
 | _ :: _, _ :: _, h => by simp [VRL.len h.2]
 | [], _ :: _, h => h.elim
 | _ :: _, [], h => h.elim
theorem VRL.get : ∀ {ds : List D} {vs : List Value}, VRL F μ ds vs -> ∀ (i : Nat) (d : D) (v : Value), ds[i]? = some d -> vs[i]? = some v -> VR F μ d v
 | [], [], _, i, d, v, h, _ => by simp at h
 | _ :: _, _ :: _, h, 0, d, v, h1, h2 => by simp at h1 h2; subst h1 h2; exact h.1
 | _ :: _, _ :: _, h, i + 1, d, v, h1, h2 => VRL.get h.2 i d v (by simpa using h1) (by simpa using h2)
 | [], _ :: _, h, _, _, _, _, _ => h.elim
 | _ :: _, [], h, _, _, _, _, _ => h.elim
theorem Zjr {s : St} {a : Act} (h : ER F μ s a) : ∀ {xs : List Operand} {ds : List D}, Z34 (xs.map (evo s.env)) = some ds -> VRL F μ ds (xs.map a.eval)
 | [], ds, hd => by simp [Z34] at hd; subst hd; trivial
 | x :: xs, ds, hd => by
  simp only [List.map_cons] at hd ⊢
  cases hx : evo s.env x with
  | none => simp [hx, Z34] at hd
  | some d =>
   simp only [hx, Z34] at hd
   split at hd
   ·rename_i l hl; cases hd; exact ⟨h.evo hx, Zjr h hl⟩
   ·cases hd
theorem Zew {ty : TypeId} {mx : Bool} {s : St} {a : Act} (h : ER F μ s a) : ∀ (xs : List Operand) (k : IntKind) (x : Int), mm ar mx k x K (xs.map (evo s.env)) ->
  ∃ d v, ((xs.map a.eval).foldlM (if mx then Builtin.max2 else Builtin.min2) (.int k x)).run P w = .ok v w /\ VR F μ d v /\ K d
 | [], k, x, hk => ⟨_, _, by simp, Z3d rfl, hk⟩
 | o :: xs, k, x, hk => by
  simp only [List.map_cons] at hk ⊢
  cases ho : evo s.env o with
  | none => simp [ho, mm] at hk
  | some d =>
   rw [ho] at hk;unfold mm at hk
   split at hk
   ·rename_i h0; cases h0
   ·rename_i k' y r h0
    cases h0
    have hv := (h.evo ho).v_inv
    split at hk
    ·rename_i he
     subst he
     split at hk
     ·obtain ⟨d, v, h1, h2⟩ := Zew (ty := ty) h xs k (if y > x then y else x) hk;refine ⟨d, v, ?_, h2⟩;rw [hv];simpa [Builtin.max2] using h1
     ·obtain ⟨d, v, h1, h2⟩ := Zew (ty := ty) h xs k (if y < x then y else x) hk;refine ⟨d, v, ?_, h2⟩;rw [hv];simpa [Builtin.min2] using h1
    ·exact hk.elim
   ·exact hk.elim
theorem Zgl {ty : TypeId} {ts : Array TypeId} {mx : Bool} {s : St} {a : Act} (h : ER F μ s a) {xs : Array Operand} (hk : mmA ar mx K (xs.toList.map (evo s.env))) :
  ∃ d v, (if mx then Builtin.max_ ts ty (xs.map a.eval) else Builtin.min_ ts ty (xs.map a.eval)).run P w = .ok v w /\ VR F μ d v /\ K d := by
 obtain ⟨xs⟩ := xs
 cases xs with
 | nil => exact hk.elim
 | cons o xs =>
  simp only [List.map_cons] at hk
  cases ho : evo s.env o with
  | none => simp [ho, mmA] at hk
  | some d =>
   rw [ho] at hk;unfold mmA at hk
   split at hk
   ·rename_i k x r h0
    cases h0
    have hv := (h.evo ho).v_inv;obtain ⟨d, v, h1, h2⟩ := Zew (P := P) (w := w) (ty := ty) h xs k x hk;refine ⟨d, v, ?_, h2⟩
    cases mx
    ·simpa [Builtin.min_, hv] using h1
    ·simpa [Builtin.max_, hv] using h1
   ·exact hk.elim
theorem Zm5 {s : St} {a : Act} (h : ER F μ s a) {fn : Fn} {first caps : Array Operand} (hk : Zlz K fn first (caps.toList.map (evo s.env))) :
  ∃ d v, (Instr.makeFunc fn (first.map a.eval) (caps.map a.eval)).run P w = .ok v w /\ VR F μ d v /\ K d := by
 unfold Zlz at hk
 split at hk
 ·rename_i f cs hf hc
  have hl := Zjr h hc;obtain ⟨first⟩ := first;obtain rfl : first = [] := hf;refine ⟨_, .func (.func f) #[] (caps.map a.eval), by simp [Instr.makeFunc], .fn f cs _ (by rw [hl.len]; simp) (fun i c v h1 h2 => hl.get i c v h1 ?_), hk⟩;simpa [<- Array.getElem?_toList] using h2
 ·exact hk.elim
theorem Zm6 (hT : TOK P T) {t : TypeId} {x : D} {vx : Value} (hx : VR F μ x vx) (h : Zm0 T t K x) : ∃ d v, (Instr.makeInterface t vx).run P w = .ok v w /\ VR F μ d v /\ K d := by
 unfold Zm0 at h
 split at h
 ·rename_i e he
  obtain ⟨d, hd, hkc, -⟩ := Z1e hT he
  split at h
  ·exact h.elim
  ·rename_i hk
   refine ⟨_, .iface t vx, ?_, .ifc t x vx hx, h⟩;unfold Instr.makeInterface;rw [Sem.run_bind, run_underlying hd w]
   cases d <;> first | rfl | (simp [Zaw] at hkc; exact absurd hkc.symm hk)
 ·exact h.elim
theorem Zm7 (hT : TOK P T) {xt t : TypeId} {ok : Bool} {x : D} {vx : Value} (hx : VR F μ x vx) (h : Zm2 T t ok K x) : ∃ d v, (Instr.typeAssert vx xt t ok).run P w = .ok v w /\ VR F μ d v /\ K d := by
 have tup2 : ∀ {d : D} {v : Value} {b : Bool}, VR F μ d v -> VR F μ (.tup [d, .v (.bool b)]) (.tuple #[v, .bool b]) := fun {d v b} hd =>
  .tup _ _ rfl fun i c v' h1 h2 => by
   match i, h1, h2 with
   | 0, h1, h2 => simp at h1 h2; subst h1 h2; exact hd
   | 1, h1, h2 => simp at h1 h2; subst h1 h2; exact Z3d rfl
   | n + 2, h1, h2 => simp at h1
 have zero : ∀ {e : TE}, Z1d T t = some e -> ∃ z, (zeroValue t).run P w = .ok z w /\ VR F μ e.zero z := fun {e} he => by
  obtain ⟨i, d, z, h1, h2, h3, h4, h5, h6, h7, -⟩ := hT.at he;exact ⟨z, by simp [zeroValue, typeInfo, h1, h3], by rw [h7]; exact .cl _ _ (CR.ofV z)⟩
 unfold Zm2 at h
 split at h
 ·rename_i t' d
  obtain ⟨v, rfl, hd⟩ := hx.ifc_inv
  split at h
  ·rename_i e he
   obtain ⟨de, hde, hkc, -⟩ := Z1e hT he
   split at h
   ·exact h.elim
   ·rename_i hk
    have hni : ∀ ms, de ≠ .interface ms := fun ms e => by subst e; simp [Zaw] at hkc; exact hk hkc.symm
    split at h
    ·rename_i hd1
     have ht : t' = t := of_decide_eq_true hd1;refine ⟨_, .tuple #[v, .bool true], ?_, tup2 hd, h⟩;unfold Instr.typeAssert;rw [Sem.run_bind, run_underlying hde w]
     cases de <;> first | (exact absurd rfl (hni _)) | simp [ht]
    ·rename_i hd1
     have ht : t' = t := of_decide_eq_true hd1;refine ⟨_, v, ?_, hd, h⟩;unfold Instr.typeAssert;rw [Sem.run_bind, run_underlying hde w]
     cases de <;> first | (exact absurd rfl (hni _)) | simp [ht]
    ·rename_i hd1
     have ht : ¬ t' = t := of_decide_eq_false hd1;obtain ⟨z, hz, hzr⟩ := zero he;refine ⟨_, .tuple #[z, .bool false], ?_, tup2 hzr, h⟩;unfold Instr.typeAssert;rw [Sem.run_bind, run_underlying hde w]
     cases de <;> first | (exact absurd rfl (hni _)) | simp [ht, hz]
    ·exact h.elim
  ·exact h.elim
 ·obtain rfl := hx.v_inv
  split at h
  ·rename_i e he
   obtain ⟨de, hde, hkc, -⟩ := Z1e hT he
   split at h
   ·exact h.elim
   ·rename_i hk
    have hni : ∀ ms, de ≠ .interface ms := fun ms e => by subst e; simp [Zaw] at hkc; exact hk hkc.symm
    obtain ⟨z, hz, hzr⟩ := zero he;refine ⟨_, .tuple #[z, .bool false], ?_, tup2 hzr, h⟩;unfold Instr.typeAssert;rw [Sem.run_bind, run_underlying hde w]
    cases de <;> first | (exact absurd rfl (hni _)) | simp [hz]
   ·exact h.elim
  ·exact h.elim
 ·exact h.elim
theorem Zex {cs xs : List D} {off : Nat} (h : off + xs.length <= cs.length) (i : Nat) : (Z7l cs off xs)[i]? = if off <= i /\ i < off + xs.length then xs[i - off]? else cs[i]? := by
 unfold Z7l;have hl : (cs.take off).length = off := by rw [List.length_take]; omega
 by_cases h1 : i < off
 ·rw [List.append_assoc, List.getElem?_append_left (by omega), List.getElem?_take, if_pos h1, if_neg (by omega)]
 ·rw [List.append_assoc, List.getElem?_append_right (by omega), hl]
  by_cases h2 : i < off + xs.length
  ·rw [List.getElem?_append_left (by omega), if_pos ⟨by omega, h2⟩]
  ·rw [List.getElem?_append_right (by omega), List.getElem?_drop, if_neg (by omega)]
   congr 1; omega
theorem Zb3 {cs xs : List D} {off : Nat} (h : off + xs.length <= cs.length) : (Z7l cs off xs).length = cs.length := by
 unfold Z7l; simp; omega
structure CellsA (F : Fz) (μ : Mu) (cs : List D) (vs : Array Value) : Prop where
 len : cs.length = vs.size
 rel : ∀ (i : Nat) (c : D) (v : Value), cs[i]? = some c -> vs[i]? = some v -> VR F μ c v
 one : ∀ (i : Nat) (v : Value), vs[i]? = some v -> v.oneCell' = true
theorem Z98 (xs : List (Value × Nat)) (off : Nat) : ∀ vs : Array Value, (xs.foldl (fun cs (c, j) => cs.setIfInBounds (off + j) c) vs).size = vs.size := by
 induction xs with
 | nil => intro vs; rfl
 | cons x xs ih => intro vs; simp only [List.foldl_cons]; rw [ih]; simp
theorem Zb4 (off : Nat) : ∀ (xs : List Value) (k : Nat) (vs : Array Value), off + k + xs.length <= vs.size -> ∀ i,
  ((xs.zipIdx k).foldl (fun cs (c, j) => cs.setIfInBounds (off + j) c) vs)[i]? = if off + k <= i /\ i < off + k + xs.length then xs[i - (off + k)]? else vs[i]? := by
 intro xs
 induction xs with
 | nil => intro k vs _ i; simp; intro h1 h2; omega
 | cons x xs ih =>
  intro k vs hle i;simp only [List.zipIdx_cons, List.foldl_cons, List.length_cons] at hle ⊢;rw [ih (k + 1) _ (by simp; omega) i]
  by_cases h1 : off + (k + 1) <= i /\ i < off + (k + 1) + xs.length
  ·rw [if_pos h1, if_pos ⟨by omega, by omega⟩];have : i - (off + k) = (i - (off + (k + 1))) + 1 := by omega
   rw [this, List.getElem?_cons_succ]
  ·rw [if_neg h1, Array.getElem?_setIfInBounds]
   by_cases h2 : off + k = i
   ·rw [if_pos h2, if_pos (by omega), if_pos ⟨by omega, by omega⟩];have : i - (off + k) = 0 := by omega
    rw [this]; rfl
   ·rw [if_neg h2, if_neg (by omega)]
theorem Z4g {d : D} {v : Value} {xs : List D} (hv : VR F μ d v) (h : Z35 d = some xs) (ho : ∀ x, d = .v x -> x.oneCell' = true) : CellsA F μ xs v.cells := by
 have one : ∀ {v : Value}, v.oneCell' = true -> VR F μ d v -> xs = [d] -> CellsA F μ xs v.cells := fun {v} h1 h2 h3 => by
  subst h3;have hc : v.cells = #[v] := by cases v <;> simp [Value.oneCell'] at h1 <;> rfl
  rw [hc];refine ⟨rfl, fun i c v' e1 e2 => ?_, fun i v' e2 => ?_⟩
  ·match i, e1, e2 with
   | 0, e1, e2 => simp at e1 e2; subst e1 e2; exact h2
   | n + 1, e1, e2 => simp at e1
  ·match i, e2 with
   | 0, e2 => simp at e2; subst e2; exact h1
   | n + 1, e2 => simp at e2
 cases d
 case arr => cases h
 case tup => cases h
 case any => cases h
 case agg cs =>
  obtain rfl := Option.some.inj h;obtain ⟨vs, rfl, hl, hr, ho⟩ := hv.agg_inv;exact ⟨hl, hr, ho⟩
 case v x =>
  obtain rfl := hv.v_inv;exact one (ho _ rfl) hv (Option.some.inj h).symm
 all_goals
  refine one ?_ hv (Option.some.inj h).symm
  first
   | (cases hv with
    | cl _ _ hc => cases hc <;> rfl
    | _ => rfl)
   | (cases hv <;> first | rfl | (rename_i hc; cases hc <;> rfl))
theorem VR.v_one {x v : Value} (h : VR F μ (.v x) v) : x.oneCell' = true := by cases h with | cl _ _ h => cases h; assumption
theorem Z99 {place place' : Nat -> Option (Nat × Nat)} (hp : ∀ i p, place i = some p -> place' i = some p) {s : St} {a : Act} (h : ER F μ s a) : ∀ (parts : List (Nat × Operand)) (cs : List D) (vs : Array Value) (cs' : List D),
  CellsA F μ cs vs -> Zet place cs (parts.map fun (i, x) => (i, evo s.env x)) = some cs' -> ∃ vs', Instr.fill place' vs (parts.map fun (i, x) => (i, a.eval x)) = some vs' /\ CellsA F μ cs' vs'
 | [], cs, vs, cs', hc, he => by simp [Zet] at he; subst he; exact ⟨vs, rfl, hc⟩
 | (i, x) :: parts, cs, vs, cs', hc, he => by
  simp only [List.map_cons] at he ⊢
  cases hx : evo s.env x with
  | none => simp [hx, Zet] at he
  | some d =>
   rw [hx] at he;simp only [Zet] at he
   split at he
   ·rename_i off n xs hpl hlc
    split at he
    ·rename_i hb1 hb2
     have hb1 := Nat.eq_of_beq_eq_true hb1;have hb2 := Nat.le_of_ble_eq_true hb2;have hv := h.evo hx;have hcx := Z4g hv hlc (fun y e => by subst e; exact hv.v_one);have hsz : (a.eval x).cells.size = n := by rw [<- hcx.len, hb1]
     have hcs' : CellsA F μ (Z7l cs off xs) ((a.eval x).cells.zipIdx.foldl (fun cs (c, j) => cs.setIfInBounds (off + j) c) vs) := by
      have e1 : (a.eval x).cells.zipIdx.foldl (fun cs (c, j) => cs.setIfInBounds (off + j) c) vs = ((a.eval x).cells.toList.zipIdx 0).foldl (fun cs (c, j) => cs.setIfInBounds (off + j) c) vs := by
       rw [<- Array.foldl_toList, Array.toList_zipIdx]
      have hle : off + 0 + (a.eval x).cells.toList.length <= vs.size := by
       simp only [Array.length_toList, hsz]; have := hc.len; omega
      have hg := fun i => Zb4 off (a.eval x).cells.toList 0 vs hle i;rw [e1];refine ⟨by rw [Zb3 (by omega), Z98]; exact hc.len, fun i c v g1 g2 => ?_, fun i v g2 => ?_⟩
      ·rw [Zex (by omega)] at g1;rw [hg] at g2;simp only [Nat.add_zero, Array.length_toList, hsz] at g2;rw [hb1] at g1
       split at g1
       ·rename_i hh; rw [if_pos hh] at g2
        exact hcx.rel _ _ _ g1 (by simpa using g2)
       ·rename_i hh; rw [if_neg hh] at g2
        exact hc.rel _ _ _ g1 g2
      ·rw [hg] at g2
       split at g2
       ·exact hcx.one (i - (off + 0)) v (by simpa using g2)
       ·exact hc.one _ _ g2
     obtain ⟨vs', g1, g2⟩ := Z99 hp h parts _ _ cs' hcs' he;refine ⟨vs', ?_, g2⟩;unfold Instr.fill;rw [hp i _ hpl];simp only [hsz, ne_eq, not_true_eq_false, decide_false, Bool.false_or];rw [if_neg]
     ·exact g1
     ·have := hc.len; simp; omega
    ·cases he
   ·cases he
end
end Go.Abs

namespace Go.Abs
open Go
section
variable {P : Program} {T : TT} {F : Fz} {μ : Mu} {w : World} {K : D -> Prop}
theorem Zjs {α β : Type} (g : α -> Option β) : ∀ (l : List α) (r : List β), l.mapM g = some r -> ∀ i : Nat, r[i]? = (l[i]?).bind g
 | [], r, h, i => by simp at h; subst h; simp
 | x :: l, r, h, i => by
  simp only [List.mapM_cons, Option.bind_eq_bind, Option.pure_def] at h
  cases hx : g x with
  | none => simp [hx] at h
  | some y =>
   cases hr : l.mapM g with
   | none => simp [hx, hr] at h
   | some r' =>
    simp [hx, hr] at h;subst h
    cases i with
    | zero => simp [hx]
    | succ i => simpa using Zjs g l r' hr i
theorem Zjt {α β : Type} (g : α -> Option β) : ∀ (l : List α) (r : List β), l.mapM g = some r -> r.length = l.length
 | [], r, h => by simp at h; subst h; rfl
 | x :: l, r, h => by
  simp only [List.mapM_cons, Option.bind_eq_bind, Option.pure_def] at h
  cases hx : g x with
  | none => simp [hx] at h
  | some y =>
   cases hr : l.mapM g with
   | none => simp [hx, hr] at h
   | some r' =>
    simp [hx, hr] at h;subst h;simp [Zjt g l r' hr]
theorem Zm8 (hT : TOK P T) {t : TypeId} {e : TE} (he : Z1d T t = some e) {zs : List D} (hz : e.zero = .agg zs) {i : TypeInfo} {z : Value} (hi : P.info? t = some i) (hz' : i.zero = some z) : CellsA F μ zs z.cells /\ z = .agg z.cells := by
 obtain ⟨i', d, z', h1, h2, h3, h4, h5, h6, h7, h8, h9, -⟩ := hT.at he;rw [hi] at h1; cases h1;rw [hz'] at h3; cases h3;rw [hz] at h7;have hv : VR F μ (.agg zs) z := by rw [h7]; exact .cl _ _ (CR.ofV z)
 obtain ⟨vs, rfl, hl, hr, ho⟩ := hv.agg_inv;exact ⟨⟨hl, hr, ho⟩, rfl⟩
theorem Zm9 (hT : TOK P T) {t : TypeId} {s : St} {a : Act} (h : ER F μ s a) {parts : Array (Nat × Operand)} (hk : Zm1 T t (parts.toList.map fun (i, x) => (i, evo s.env x)) K) :
  ∃ d v, (Instr.build t (parts.map fun (i, x) => (i, a.eval x))).run P w = .ok v w /\ VR F μ d v /\ K d := by
 have fin : ∀ {cs : List D} {vs : Array Value}, P.built t (parts.toList.map fun (i, x) => (i, a.eval x)) = some vs -> CellsA F μ cs vs -> K (.agg cs) -> ∃ d v, (Instr.build t (parts.map fun (i, x) => (i, a.eval x))).run P w = .ok v w /\ VR F μ d v /\ K d :=
  fun {cs vs} hb hc hk => ⟨.agg cs, .agg vs, run_build w t _ vs (by simpa using hb), .agg _ _ hc.len hc.rel hc.one, hk⟩
 unfold Zm1 at hk
 split at hk
 ·rename_i e he
  obtain ⟨i, d, z, h1, h2, h3, h4, h5, h6, h7, h8, h9, h10, h11, h12, h13, h14, -⟩ := hT.at he
  split at hk
  ·rename_i zs hzs
   obtain ⟨hzc, hze⟩ := Zm8 (F := F) (μ := μ) hT he hzs h1 h3
   split at hk
   ·rename_i hkc
    split at hk
    ·exact hk.elim
    ·rename_i hok
     split at hk
     ·rename_i cs hf
      rw [hkc] at h13;obtain ⟨fs, rfl⟩ : ∃ fs, d = .struct fs := by cases d <;> simp [Zaw] at h13; exact ⟨_, rfl⟩
      rw [hok] at h14;obtain ⟨places, hpl⟩ := Option.isSome_iff_exists.1 h14.symm;have hpp : ∀ j p, Zib e j = some p -> (places.toArray[·]?) j = some p := fun j p hp => by
       unfold Zib at hp
       split at hp
       ·rename_i off n ag hfd
        cases hp
        obtain ⟨fs', fl, g1, g2, rfl, rfl, -⟩ := Zlv hT he hfd;rw [h2] at g1; cases g1;show places.toArray[j]? = _;have this := Zjs _ _ _ hpl j;have e0 : fs.toList[j]? = some fl := by rw [Array.getElem?_toList]; exact g2
        rw [e0] at this;have hlt : j < places.length := by
         have hj := (Array.getElem?_eq_some_iff.1 g2).1;have hlen := Zjt _ _ _ hpl;simp at hlen; omega
        have hto : places.toArray[j]? = places[j]? := by simp
        rw [hto]
        cases hq : P.info? fl.type with
        | none => rw [List.getElem?_eq_getElem hlt] at this; simp [hq] at this
        | some q => rw [this]; simp [hq, Program.cellsOf]
       ·cases hp
      obtain ⟨vs', g1, g2⟩ := Z99 hpp h parts.toList zs z.cells cs hzc hf;refine fin ?_ g2 hk;unfold Program.built;rw [h1, h2];simp only [h3, hpl];exact g1
     ·exact hk.elim
   ·rename_i hkc
    split at hk
    ·rename_i n el hel
     split at hk
     ·rename_i e2 he2
      split at hk
      ·rename_i cs hf
       obtain ⟨i2, d2, z2, k1, k2, k3, k4, -⟩ := hT.at he2;obtain ⟨vs', g1, g2⟩ := Z99 (place' := fun i => some (i * e2.size, e2.size)) (fun _ _ hp => hp) h parts.toList zs z.cells cs hzc hf;refine fin ?_ g2 hk;unfold Program.built;rw [h1, Zev hT he hel];simp only [h3, k1];rw [<- k4];exact g1
      ·exact hk.elim
     ·exact hk.elim
    ·exact hk.elim
   ·exact hk.elim
  ·exact hk.elim
 ·exact hk.elim
theorem Z9a {s : St} {a : Act} (h : ER F μ s a) {x : Operand} {n : Int} (hx : Go.Abs.intOf (evo s.env x) = some n) : ∃ k, a.eval x = .int k n := by
 cases hq : evo s.env x with
 | none => simp [hq, Go.Abs.intOf] at hx
 | some d =>
  rw [hq] at hx;unfold Go.Abs.intOf at hx
  split at hx
  ·rename_i k m h0
   cases h0; cases hx
   exact ⟨k, (h.evo hq).v_inv⟩
  ·cases hx
def bnd (s : St) (o : Option Operand) (dflt l : Int) : Prop := match o with | none => l = dflt | some x => Go.Abs.intOf (evo s.env x) = some l
theorem Z8f {s : St} {a : Act} (h : ER F μ s a) (isS : Bool) (len cap : Nat) (lo hi : Option Operand) (l hh : Int)
  (hl : bnd s lo 0 l) (hhi : bnd s hi len hh)
  (h0 : 0 <= l) (h1 : l <= hh) (h2 : hh <= cap) : (Instr.sliceBounds isS len cap (lo.map a.eval) (hi.map a.eval) none).run P w = .ok (l.toNat, hh.toNat, cap) w := by
 unfold Instr.sliceBounds;have e1 : hh.toNat = hh := Int.toNat_of_nonneg (by omega)
 cases lo with
 | none =>
  obtain rfl : l = 0 := hl
  cases hi with
  | none =>
   obtain rfl : hh = len := hhi;simp
  | some y =>
   obtain ⟨k2, e2⟩ := Z9a h hhi;simp [Instr.sliceBound, asIntOf, e2, show 0 <= hh by omega, h2]
 | some x =>
  obtain ⟨k1, e3⟩ := Z9a h hl
  cases hi with
  | none =>
   obtain rfl : hh = len := hhi;simp [Instr.sliceBound, asIntOf, e3, h0, h1]
  | some y =>
   obtain ⟨k2, e2⟩ := Z9a h hhi;simp [Instr.sliceBound, asIntOf, e2, e3, show 0 <= hh by omega, h2, h0, h1, e1]
theorem Zma (hT : TOK P T) {t : TypeId} {s : St} {a : Act} (h : ER F μ s a) {x : D} {vx : Value} (hx : VR F μ x vx) {lo hi : Option Operand} (hk : Zjp ar T t (lo.map (evo s.env)) (hi.map (evo s.env)) K x) :
  ∃ d v, (Instr.sliceAt t vx (lo.map a.eval) (hi.map a.eval) none).run P w = .ok v w /\ VR F μ d v /\ K d := by
 have slc : ∀ {sz el : Nat} {es : List D} {e e2 : TE} {l hh : Int}, VR F μ (.sl sz es) vx -> Z1d T t = some e -> e.el = some (none, el) -> Z1d T el = some e2 -> sz = e2.size ->
   bnd s lo 0 l -> bnd s hi es.length hh ->
   0 <= l -> l <= hh -> hh <= es.length -> K (.sl sz ((es.take hh.toNat).drop l.toNat)) -> ∃ d v, (Instr.sliceAt t vx (lo.map a.eval) (hi.map a.eval) none).run P w = .ok v w /\ VR F μ d v /\ K d :=
  fun {sz el es e e2 l hh} hx he hel he2 hsz hl hhi h0 h1 h2 hk => by
  have hu := Z61 hT he hel;have hs := Z6i (w := w) hT he2;have hlen : ((es.take hh.toNat).drop l.toNat).length = hh.toNat - l.toNat := by simp; omega
  cases hx with
  | cl _ _ hc =>
   cases hc with
   | slE _ ad cap =>
    have hb := Z8f (P := P) (w := w) h true 0 cap lo hi l hh hl (by simpa using hhi) h0 h1 (by simp at h2; omega);refine ⟨_, .slice (if cap = l.toNat then ad else ad.map (·.add (l.toNat * e2.size))) (hh.toNat - l.toNat) (cap - l.toNat), ?_, ?_, hk⟩
    ·unfold Instr.sliceAt;rw [Sem.run_bind, run_underlying hu w];unfold Instr.slice;simp only [Result.andThen_ok, Sem.run_bind, run_underlying hu w, hb, hs];rfl
    ·simp only [List.take_nil, List.drop_nil];have : hh.toNat - l.toNat = 0 := by simp at h2; omega
     rw [this]; exact .cl _ _ (.slE _ _ _)
   | sl _ _ b o cap val hc hz hf hv =>
    have hb := Z8f (P := P) (w := w) h true es.length cap lo hi l hh hl hhi h0 h1 (by omega);refine ⟨_, .slice (if cap = l.toNat then some ⟨b, o, none⟩ else some ((⟨b, o, none⟩ : Addr).add (l.toNat * e2.size))) (hh.toNat - l.toNat) (cap - l.toNat), ?_, ?_, hk⟩
    ·unfold Instr.sliceAt;rw [Sem.run_bind, run_underlying hu w];unfold Instr.slice;simp only [Result.andThen_ok, Sem.run_bind, run_underlying hu w, hb, hs];rfl
    ·rw [<- hlen]
     by_cases hz0 : hh.toNat - l.toNat = 0
     ·have : (es.take hh.toNat).drop l.toNat = [] := List.eq_nil_of_length_eq_zero (by rw [hlen, hz0]);rw [this]; exact .cl _ _ (.slE _ _ _)
     ·rw [if_neg (by omega), add_lit];have gt : ∀ i x, ((es.take hh.toNat).drop l.toNat)[i]? = some x -> es[l.toNat + i]? = some x := fun i x hi => by
       rw [List.getElem?_drop, List.getElem?_take] at hi
       split at hi
       ·exact hi
       ·cases hi
      refine .cl _ _ (.sl sz _ b (o + l.toNat * e2.size) (cap - l.toNat) (fun i r => val (l.toNat + i) r) (by rw [hlen]; omega) (fun i e hi => hz _ _ (gt i e hi)) (fun i e r c hi hr => ?_) (fun i e r c hi hr => hv _ _ _ _ (gt i e hi) hr));have := hf _ _ _ _ (gt i e hi) hr;have e0 : o + l.toNat * e2.size + i * sz + r = o + (l.toNat + i) * sz + r := by rw [hsz, Nat.add_mul]; omega
      rw [e0]; exact this
 have str : ∀ {b : ByteArray} {e : TE} {l hh : Int}, Z1d T t = some e -> e.kc = 2 -> vx = .string b -> bnd s lo 0 l -> bnd s hi b.size hh ->
   0 <= l -> l <= hh -> hh <= b.size -> K (.v (.string (b.extract l.toNat hh.toNat))) -> ∃ d v, (Instr.sliceAt t vx (lo.map a.eval) (hi.map a.eval) none).run P w = .ok v w /\ VR F μ d v /\ K d :=
  fun {b e l hh} he hkc hvx hl hhi h0 h1 h2 hk => by
  subst hvx;obtain ⟨d, hd, hkc', -⟩ := Z1e hT he;rw [hkc] at hkc';obtain rfl : d = .string := by cases d <;> simp [Zaw] at hkc' <;> rfl
  have hb := Z8f (P := P) (w := w) h false b.size b.size lo hi l hh hl hhi h0 h1 (by omega);refine ⟨_, .string (b.extract l.toNat hh.toNat), ?_, Z3d rfl, hk⟩;unfold Instr.sliceAt;rw [Sem.run_bind, run_underlying hd w];unfold Instr.slice;simp only [Result.andThen_ok, Sem.run_bind, run_underlying hd w];simp [hb]
 unfold Zjp at hk
 split at hk
 ·rename_i sz es
  split at hk
  ·rename_i e he
   split at hk
   ·rename_i el hel
    split at hk
    ·rename_i e2 he2
     cases hsz : Nat.beq sz e2.size with
     | false => rw [hsz] at hk; cases lo <;> cases hi <;> exact hk.elim
     | true =>
      rw [hsz] at hk;have hsz := Nat.eq_of_beq_eq_true hsz
      cases lo with
      | none =>
       cases hi with
       | none => exact slc hx he hel he2 hsz (l := 0) (hh := es.length) rfl rfl (by omega) (by omega) (by omega) (by simpa using hk)
       | some y =>
        simp only [Option.map_none, Option.map_some] at hk
        split at hk
        ·rename_i l hl
         obtain ⟨⟨h0, h1, h2⟩, hk⟩ := hk;exact slc hx he hel he2 hsz (l := 0) (hh := l) rfl hl (by omega) h1 h2 hk
        ·exact hk.elim
      | some x =>
       cases hi with
       | none =>
        simp only [Option.map_none, Option.map_some] at hk
        split at hk
        ·rename_i l hl
         obtain ⟨⟨h0, h1, h2⟩, hk⟩ := hk;exact slc hx he hel he2 hsz (l := l) (hh := es.length) hl rfl h0 h1 h2 hk
        ·exact hk.elim
       | some y =>
        simp only [Option.map_some] at hk
        split at hk
        ·rename_i l hh hl hr
         obtain ⟨⟨h0, h1, h2⟩, hk⟩ := hk;exact slc hx he hel he2 hsz (l := l) (hh := hh) hl hr h0 h1 h2 hk
        ·exact hk.elim
    ·exact hk.elim
   ·exact hk.elim
  ·exact hk.elim
 ·rename_i b
  have hvx := hx.v_inv
  split at hk
  ·rename_i e he
   by_cases hkc : e.kc = 2
   ·rw [hkc] at hk
    cases lo with
    | none =>
     cases hi with
     | none =>
      refine str he hkc hvx (l := 0) (hh := b.size) rfl rfl (by omega) (by omega) (by omega) ?_;have : b.extract (Int.toNat 0) (Int.toNat b.size) = b := by simp
      rw [this]; exact hk
     | some y =>
      simp only [Option.map_none, Option.map_some] at hk
      split at hk
      ·rename_i l hl
       obtain ⟨⟨h0, h1, h2⟩, hk⟩ := hk;exact str he hkc hvx (l := 0) (hh := l) rfl hl (by omega) h1 h2 hk
      ·exact hk.elim
    | some x =>
     cases hi with
     | none =>
      simp only [Option.map_none, Option.map_some] at hk
      split at hk
      ·rename_i l hl
       obtain ⟨⟨h0, h1, h2⟩, hk⟩ := hk;exact str he hkc hvx (l := l) (hh := b.size) hl rfl h0 h1 h2 hk
      ·exact hk.elim
     | some y =>
      simp only [Option.map_some] at hk
      split at hk
      ·rename_i l hh hl hr
       obtain ⟨⟨h0, h1, h2⟩, hk⟩ := hk;exact str he hkc hvx (l := l) (hh := hh) hl hr h0 h1 h2 hk
      ·exact hk.elim
   ·exfalso
    revert hk hkc
    generalize e.kc = n
    intro hk hkc
    cases lo <;> cases hi <;> simp only [Option.map_none, Option.map_some] at hk <;> (split at hk <;> first | exact hkc rfl | exact hk)
  ·exact hk.elim
 ·rename_i b n cap
  have hvx := hx.v_inv;have slv : ∀ {el : Nat} {e e2 : TE} {l hh : Int}, Z1d T t = some e -> e.el = some (none, el) -> Z1d T el = some e2 -> bnd s lo 0 l -> bnd s hi n hh -> 0 <= l -> l <= hh -> hh <= cap ->
    K (.v (.slice (if cap = l.toNat then some ⟨b, 0, none⟩ else some ⟨b, l.toNat * e2.size, none⟩) (hh.toNat - l.toNat) (cap - l.toNat))) -> ∃ d v, (Instr.sliceAt t vx (lo.map a.eval) (hi.map a.eval) none).run P w = .ok v w /\ VR F μ d v /\ K d :=
   fun {el e e2 l hh} he hel he2 hl hhi h0 h1 h2 hk => by
   have hu := Z61 hT he hel;have hs := Z6i (w := w) hT he2;have hb := Z8f (P := P) (w := w) h true n cap lo hi l hh hl hhi h0 h1 h2;refine ⟨_, .slice (if cap = l.toNat then some ⟨b, 0, none⟩ else some ⟨b, l.toNat * e2.size, none⟩) (hh.toNat - l.toNat) (cap - l.toNat), ?_, Z3d (by split <;> rfl), hk⟩;rw [hvx];unfold Instr.sliceAt;rw [Sem.run_bind, run_underlying hu w];unfold Instr.slice;simp only [Result.andThen_ok, Sem.run_bind, run_underlying hu w, hb, hs];have e0 : (⟨b, 0, none⟩ : Addr).add (l.toNat * e2.size) = ⟨b, l.toNat * e2.size, none⟩ := by rw [add_lit]; simp
   simp only [Option.map_some, e0];rfl
  split at hk
  ·rename_i e he
   split at hk
   ·rename_i el hel
    split at hk
    ·rename_i e2 he2
     cases lo with
     | none =>
      cases hi with
      | none => exact hk.elim
      | some y =>
       simp only [Option.map_none, Option.map_some] at hk
       split at hk
       ·rename_i hh hr
        obtain ⟨⟨h0, h1⟩, hk⟩ := hk;refine slv he hel he2 (l := 0) (hh := hh) rfl hr (by omega) h0 h1 ?_;have e3 : (if cap = Int.toNat 0 then some (⟨b, 0, none⟩ : Addr) else some ⟨b, Int.toNat 0 * e2.size, none⟩) = some ⟨b, 0, none⟩ := by simp
        rw [e3]; exact hk
       ·exact hk.elim
     | some x =>
      cases hi with
      | none =>
       simp only [Option.map_none, Option.map_some] at hk
       split at hk
       ·rename_i l hl
        obtain ⟨⟨h0, h1, h2⟩, hk⟩ := hk;exact slv he hel he2 (l := l) (hh := n) hl rfl h0 h1 (by omega) hk
       ·exact hk.elim
      | some y => exact hk.elim
    ·exact hk.elim
   ·exact hk.elim
  ·exact hk.elim
 ·exact hk.elim
theorem Zju {d : D} {v : Value} (h : VR F μ d v) (hs : Zr0 d = true) : ∃ a n c, v = .slice a n c := by
 cases d <;> simp [Zr0] at hs
 case sl => obtain ⟨a, c, e, -⟩ := h.sl_inv; exact ⟨a, _, c, e⟩
 case o => obtain ⟨a, c, e, -⟩ := h.o_inv; exact ⟨a, _, c, e⟩
 case z0 => cases h with | cl _ _ h => cases h with | z0 a => exact ⟨a, 0, 0, rfl⟩
 case v x =>
  split at hs
  all_goals first
   | cases hs; done
   | (rename_i e; first | cases e | skip)
  all_goals first
   | (obtain rfl := h.v_inv; exact ⟨_, _, _, rfl⟩)
theorem Zey {d : Option D} {n : Int} (h : intOf d = some n) : ∃ k, d = some (.v (.int k n)) := by
 unfold intOf at h; split at h
 ·cases h; exact ⟨_, rfl⟩
 ·cases h
theorem Zjv (hT : TOK P T) {t : TypeId} {s : St} {a : Act} (h : ER F μ s a) {x : D} {vx : Value} (hx : VR F μ x vx) {lo hi : Option Operand} {mx : Operand} (hk : Zeu T t lo (hi.map (evo s.env)) (evo s.env mx) K x) :
  ∃ d v, (Instr.sliceAt t vx (lo.map a.eval) (hi.map a.eval) (some (a.eval mx))).run P w = .ok v w /\ VR F μ d v /\ K d := by
 unfold Zeu at hk
 split at hk
 ·rename_i e he hs
  split at hk
  ·rename_i el hel
   split at hk
   ·rename_i e2 hh he2 hhi
    split at hk
    ·rename_i i1 i2
     obtain ⟨ad, n, c, rfl⟩ := Zju hx hs
     cases hi with
     | none => cases hhi
     | some ho =>
      simp only [Option.map_some, Option.some.injEq] at hhi;obtain ⟨k1, e1⟩ := Zey i1;obtain ⟨k2, e3⟩ := Zey i2;have v1 := (h.evo (hhi.trans e1)).v_inv;have v2 := (h.evo e3).v_inv;have hu := Z61 hT he hel;have hsz := Z6i (w := w) hT he2;refine ⟨.z0, .slice ad 0 0, ?_, .cl _ _ (.z0 _), hk⟩;unfold Instr.sliceAt;rw [Sem.run_bind, run_underlying hu w];unfold Instr.slice;simp only [Result.andThen_ok, Sem.run_bind, run_underlying hu w];simp [Instr.sliceBounds, Instr.sliceBound, asIntOf, v1, v2, hsz]
    ·exact hk.elim
   ·exact hk.elim
  ·exact hk.elim
 ·exact hk.elim
theorem Z7d (hT : TOK P T) {t : TypeId} {kn : Nat} {ee : TE} (h : Zc3 T t = some (kn, ee)) : ∃ kt et, P.underlying t = some (.map kt et) /\ Z3e P 6 kt = some (Nat.max 1 kn) /\ Z3j P kt = (kn != 0) /\ Z1d T et = some ee := by
 unfold Zc3 at h
 split at h
 ·rename_i e he
  split at h
  ·rename_i kt et hmp
   split at h
   ·rename_i ek ee' hek hee
    obtain ⟨i, d, z, h1, h2, h3, h4, h5, h6, h7, h8, h9, h10, h11, h12, h13, h14, h15, h16⟩ := hT.at he;have hd : P.underlying t = some (.map kt et) := by
     rw [h2];rw [hmp] at h15
     cases d <;> simp at h15
     obtain ⟨rfl, rfl⟩ := h15; rfl
    split at h
    ·rename_i n hf ha
     cases h
     obtain ⟨-, f2, f3⟩ := Zef hT hek hf;exact ⟨kt, et, hd, by rw [f2, show Nat.max 1 (_ + 1) = _ + 1 from Nat.max_eq_right (by omega)], by rw [<- f3, ha]; rfl, hee⟩
    ·rename_i hf ha
     cases h
     obtain ⟨-, f2, f3⟩ := Zef hT hek hf;exact ⟨kt, et, hd, by rw [f2]; rfl, by rw [<- f3, ha]; rfl, hee⟩
    ·cases h
   ·cases h
  ·cases h
 ·cases h
theorem Zjw {kn : Nat} {d : D} {l : List Int} {v : Value} (h : Zu7 kn d l) (hv : VR F μ d v) : v = Z1k (kn != 0) l /\ l.length = Nat.max 1 kn := by
 unfold Zu7 at h
 split at h
 ·subst h;rw [hv.v_inv];exact ⟨by simp [Z1k], rfl⟩
 ·rename_i n l
  obtain ⟨rfl, hl⟩ := h;rw [Z97 hv];exact ⟨by simp [Z1k], by rw [hl]; simp⟩
 ·exact h.elim
theorem Zr2 {l : List (List Int × D)} {k : List Int} : (l.map (·.1)).findIdx? (· == k) = l.findIdx? (·.1 == k) := by
 induction l with
 | nil => rfl
 | cons x l ih => simp only [List.map_cons, List.findIdx?_cons, ih]
theorem find_at : ∀ {l : List (List Int × D)} {k : List Int} {j : Nat}, l.findIdx? (·.1 == k) = some j -> ∃ x, l[j]? = some x /\ l.find? (·.1 == k) = some x /\ x.1 = k
 | [], k, j, h => by simp at h
 | x :: l, k, j, h => by
  rw [List.findIdx?_cons] at h
  by_cases e : (x.1 == k) = true
  ·rw [if_pos e] at h; cases h;exact ⟨x, rfl, by simp [List.find?_cons, e], by simpa using e⟩
  ·rw [if_neg e] at h
   cases hf : l.findIdx? (·.1 == k) with
   | none => rw [hf] at h; cases h
   | some i =>
    rw [hf] at h;simp at h;subst h;obtain ⟨y, h1, h2, h3⟩ := find_at hf;exact ⟨y, by simpa using h1, by simp [List.find?_cons, e]; exact h2, h3⟩
theorem Zp8 {l : List (List Int × D)} {k : List Int} (h : l.findIdx? (·.1 == k) = none) : l.find? (·.1 == k) = none := by
 induction l with
 | nil => rfl
 | cons x l ih =>
  rw [List.findIdx?_cons] at h
  by_cases e : (x.1 == k) = true
  ·rw [if_pos e] at h; cases h
  ·rw [if_neg e] at h;rw [List.find?_cons];simp only [e]
   apply ih
   cases hf : l.findIdx? (·.1 == k) with
   | none => rfl
   | some i => rw [hf] at h; cases h
theorem Zr3 (hT : TOK P T) {t : TypeId} {e : TE} (he : Z1d T t = some e) : ∃ z, (zeroValue t).run P w = .ok z w /\ VR F μ e.zero z := by
 obtain ⟨i, d, z, h1, h2, h3, h4, h5, h6, h7, -⟩ := hT.at he;exact ⟨z, by simp [zeroValue, typeInfo, h1, h3], by rw [h7]; exact .cl _ _ (CR.ofV z)⟩
theorem Zgm {ok : Bool} {d : D} {v : Value} {b : Bool} (hv : VR F μ d v) (h : okA ok K d b) : ∃ x, VR F μ x (if ok then .tuple #[v, .bool b] else v) /\ K x := by
 cases ok with
 | false => exact ⟨d, hv, h⟩
 | true =>
  refine ⟨_, .tup _ _ rfl fun i c u hc hu => ?_, h⟩
  match i, hc, hu with
  | 0, hc, hu => simp at hc hu; subst hc; subst hu; exact hv
  | 1, hc, hu => simp at hc hu; subst hc; subst hu; exact .cl _ _ (.v _ rfl)
  | i + 2, hc, hu => simp at hc
structure EntsR (F : Fz) (kn : Nat) (es : Array MapEntry) (ents : List (List Int × D)) : Prop where
 size : es.size = ents.length
 at_ : ∀ (i : Nat) (e : MapEntry) (x : List Int × D), es[i]? = some e -> ents[i]? = some x -> e.key = Z1k (kn != 0) x.1 /\ x.1.length = Nat.max 1 kn /\ CR F x.2 e.val
theorem Zb5 (hT : TOK P T) {t : TypeId} {kn : Nat} {kt : TypeId} (h2 : Z3e P 6 kt = some (Nat.max 1 kn)) (h3 : Z3j P kt = (kn != 0)) {es : Array MapEntry} {ents : List (List Int × D)} (hr : EntsR F kn es ents) {l : List Int} (hl : l.length = Nat.max 1 kn) :
  (Instr.findKey kt (Z1k (kn != 0) l) es.toList).run P w = .ok ((ents.findIdx? (·.1 == l)).bind fun j => (es[j]?).map fun e => (j, e.val)) w := by
 have := Zd2 (P := P) (m := 6) (by omega) h2 l hl w es.toList (ents.map (·.1)) (by simpa using hr.size) (fun i e k he hk => by
  rw [List.getElem?_map, Option.map_eq_some_iff] at hk
  obtain ⟨x, hx, rfl⟩ := hk
  obtain ⟨a, b, -⟩ := hr.at_ i e x (by simpa using he) hx
  exact ⟨by rw [h3]; exact a, b⟩)
 rw [h3, Zr2] at this;rw [this];simp
theorem Zp9 (hT : TOK P T) {H : List Blk} (hr : HR F μ H w) {t : TypeId} {ok : Bool} {m key : D} {vm vk : Value} (hm : VR F μ m vm) (hk : VR F μ key vk) (h : Zea ar T H t ok K key m) :
  ∃ d v, (Instr.lookup t vm vk ok).run P w = .ok v w /\ VR F μ d v /\ K d := by
 have main : ∀ {kn : Nat} {ee : TE} {es : Array MapEntry} {ents : List (List Int × D)} {l : List Int} {v0 : Option Nat}, Zc3 T t = some (kn, ee) -> Zu7 kn key l -> EntsR F kn es ents ->
   (vm = .map none /\ es = #[] ∨ ∃ b c, vm = .map (some b) /\ w.heap[b]? = some (.map es c)) -> (∃ d, ar.mget ents l ee.zero = some d /\ okA ok K d (ar.mhas ents l)) ->
   ∃ d v, (Instr.lookup t vm vk ok).run P w = .ok v w /\ VR F μ d v /\ K d := fun {kn ee es ents l v0} hmt hkd her hvm ⟨d, hd, hok⟩ => by
  obtain ⟨kt, et, u1, u2, u3, u4⟩ := Z7d hT hmt;obtain ⟨rfl, hl⟩ := Zjw hkd hk;have hfind := Zb5 (P := P) (w := w) (F := F) (T := T) (t := t) hT u2 u3 her hl;have hchk : ∀ em, (Instr.checkKey em 10000 kt (Z1k (kn != 0) l)).run P w = .ok () w := fun em => by
   have := Z5d (P := P) em 6 9994 kt _ u2 l w hl;rw [u3] at this; exact this
  obtain ⟨z, hz, hzv⟩ := Zr3 (P := P) (F := F) (μ := μ) (w := w) hT u4;have hget : ar.mget ents l ee.zero = some (((ents.find? (·.1 == l)).map (·.2)).getD ee.zero) := rfl;rw [hget] at hd
  cases hd
  have fin : ∀ {r : Option (Nat × Value)} {val : Value} {b : Bool}, ((ents.findIdx? (·.1 == l)).bind fun j => (es[j]?).map fun e => (j, e.val)) = r -> (match r with | some (_, v) => val = v /\ b = true | none => val = z /\ b = false) ->
    (Instr.lookup t vm (Z1k (kn != 0) l) ok).run P w = .ok (if ok then .tuple #[val, .bool b] else val) w := fun {r val b} hr hv => by
   rw [hr] at hfind;rcases hvm with ⟨rfl, rfl⟩ | ⟨bb, c, rfl, hb⟩
   all_goals
    unfold Instr.lookup;simp only [Sem.run_bind, run_underlying u1, Result.andThen_ok, Sem.run_pure]
    try simp only [getObj, Sem.run, hb]
    cases r with
    | none =>
     obtain ⟨rfl, rfl⟩ := hv;simp [hchk, hfind, hz]
    | some p =>
     obtain ⟨i, v⟩ := p;obtain ⟨rfl, rfl⟩ := hv;simp [hchk, hfind]
  cases hf : ents.findIdx? (·.1 == l) with
  | none =>
   have hn := Zp8 hf;have hh : ar.mhas ents l = false := by show (ents.find? _).isSome = false; rw [hn]; rfl
   rw [hn] at hok;rw [hh] at hok;obtain ⟨x, x1, x2⟩ := Zgm (v := z) (by simpa using hzv) hok;exact ⟨x, _, fin (r := none) (by rw [hf]; rfl) ⟨rfl, rfl⟩, x1, x2⟩
  | some j =>
   obtain ⟨x0, g1, g2, g3⟩ := find_at hf;have hj : j < es.size := by rw [her.size]; exact (List.getElem?_eq_some_iff.1 g1).1
   have hej : es[j]? = some es[j] := Array.getElem?_eq_getElem hj;obtain ⟨-, -, e3⟩ := her.at_ j _ _ hej g1;have hh : ar.mhas ents l = true := by show (ents.find? _).isSome = true; rw [g2]; rfl
   rw [g2] at hok;rw [hh] at hok;obtain ⟨x, x1, x2⟩ := Zgm (v := es[j].val) (.cl _ _ (by simpa using e3)) hok;exact ⟨x, _, fin (r := some (j, es[j].val)) (by rw [hf]; simp [hej]) ⟨rfl, rfl⟩, x1, x2⟩
 unfold Zea at h
 split at h
 ·split at h
  ·rename_i kn ee hmt
   obtain ⟨l, hkd, hok⟩ := h.out;exact main (es := #[]) (ents := []) (v0 := none) hmt hkd ⟨rfl, fun i e x he => by simp at he⟩ (.inl ⟨hm.v_inv, rfl⟩) ⟨_, rfl, hok⟩
  ·exact h.elim
 ·rename_i k
  obtain ⟨b, mm, rfl, hμ⟩ : ∃ b m, vm = .map (some b) /\ μ k = some (some (b, m)) := by cases hm with | cl _ _ hc => cases hc | mv _ b m hμ => exact ⟨b, m, rfl, hμ⟩
  split at h
  ·rename_i kn ee kn' ents hmt hb
   split at h
   ·rename_i hkn
    obtain rfl := Nat.eq_of_beq_eq_true hkn;obtain ⟨l, hkd, hok⟩ := h.out;have hob : Z13 H k = some (.mp kn ents) := by rw [Z1u] at hb; rw [Z19 hb]; rfl
    obtain ⟨b', es, clock, o1, o2, o3, o4, o5, o6, o7⟩ := hr.obj _ _ hob (by rw [hμ]; simp);rw [hμ] at o1; cases o1;exact main (v0 := none) hmt hkd ⟨o3, o6⟩ (.inr ⟨b, clock, rfl, o2⟩) hok.out
   ·exact h.elim
  ·rename_i kn ee kn' ents bs clock hmt hb
   split at h
   ·rename_i hkn
    obtain rfl := Nat.eq_of_beq_eq_true hkn;obtain ⟨l, hkd, hok⟩ := h.out;have hob : Z13 H k = some (.mpx kn ents bs clock) := by rw [Z1u] at hb; rw [Z19 hb]; rfl
    obtain ⟨b', es, o1, o2, o3, o4, o5, o5', o6, o7⟩ := hr.obj _ _ hob (by rw [hμ]; simp);rw [hμ] at o1; cases o1;exact main (v0 := none) hmt hkd ⟨o3, o6⟩ (.inr ⟨b, clock, rfl, o2⟩) hok.out
   ·exact h.elim
  ·exact h.elim
 ·exact h.elim
end
end Go.Abs

namespace Go.Abs
open Go
section
variable {P : Program} {T : TT} {F : Fz} {μ : Mu} {w : World} {K : D -> Prop}
theorem Zez (hT : TOK P T) {s : St} {a : Act} (hr : HR F μ s.H w) (h : ER F μ s a) {o : Oper} (hk : Z1q ar T s K o.op) :
    (∀ c, o.op ≠ .defer c) /\ ∃ d v, (execOp a.eval o).run P w = .ok (.value v) w /\ VR F μ d v /\ K d := by
  have lift : ∀ {x : Sem Value}, (∃ d v, x.run P w = .ok v w /\ VR F μ d v /\ K d) -> execOp a.eval o = (do pure (.value (<- x))) -> ∃ d v, (execOp a.eval o).run P w = .ok (.value v) w /\ VR F μ d v /\ K d := fun {x} ⟨d, v, h1, h2⟩ he =>
    ⟨d, v, by rw [he]; simp [h1], h2⟩
  obtain ⟨dst, op, type, pos, after, guard⟩ := o
  simp only at hk ⊢
  cases op <;> try exact hk.elim
  case move x =>
    refine ⟨fun c e => (by cases e), ?_⟩
    simp only [Z1q, opt] at hk
    split at hk
    · rename_i d hd; exact ⟨d, a.eval x, by simp [execOp], h.evo hd, hk⟩
    · exact hk.elim
  case assign x =>
    refine ⟨fun c e => (by cases e), ?_⟩
    simp only [Z1q, opt] at hk
    split at hk
    · rename_i d hd; exact ⟨d, a.eval x, by simp [execOp], h.evo hd, hk⟩
    · exact hk.elim
  case pick c x y =>
    refine ⟨fun c e => (by cases e), ?_⟩
    simp only [Z1q, Zjo, opt] at hk
    split at hk
    · rename_i hc
      have hcv := (h.evo hc).v_inv
      split at hk
      · rename_i d hd; exact ⟨d, a.eval x, by simp [execOp, hcv, asBool], h.evo hd, hk⟩
      · exact hk.elim
    · rename_i hc
      have hcv := (h.evo hc).v_inv
      split at hk
      · rename_i d hd; exact ⟨d, a.eval y, by simp [execOp, hcv, asBool], h.evo hd, hk⟩
      · exact hk.elim
    · exact hk.elim
  case load t x =>
    refine ⟨fun c e => (by cases e), ?_⟩
    simp only [Z1q] at hk
    split at hk
    · rename_i e d he hd
      exact lift (Zgk hT he hr (h.evo hd) hk) rfl
    · exact hk.elim
  case nilCheck x =>
    refine ⟨fun c e => (by cases e), ?_⟩
    simp only [Z1q] at hk
    split at hk
    · rename_i d hd
      split at hk
      · rename_i hp
        have hv := h.evo hd
        refine ⟨d, a.eval x, ?_, hv, hk⟩
        have : ∀ v, VR F μ d v -> (∃ ad, v = .pointer (some ad)) ∨ (∃ f vs, v = .func (.func f) #[] vs) := fun v hv => by
          cases hv with
          | cl _ _ hc => cases hc <;> first | exact .inl ⟨_, rfl⟩ | exact .inr ⟨_, _, rfl⟩ | simp [Zqz] at hp
          | _ => first | exact .inl ⟨_, rfl⟩ | exact .inr ⟨_, _, rfl⟩ | simp [Zqz] at hp
        have this := this _ hv
        rcases this with ⟨ad, e⟩ | ⟨f, vs, e⟩ <;> simp [execOp, e]
      · exact hk.elim
    · exact hk.elim
  case binOp op t x y ty =>
    refine ⟨fun c e => (by cases e), ?_⟩
    simp only [Z1q] at hk
    split at hk
    · rename_i h1 h2
      split at hk
      · rename_i e hlit he
        split at hk
        · rename_i hkc
          have v1 := (h.evo h1).v_inv
          have v2 := (h.evo h2).v_inv
          obtain ⟨d, hd, hkc', -⟩ := Z1e hT he
          rw [hkc] at hkc'
          obtain ⟨ms, rfl⟩ : ∃ e', d = .interface e' := by cases d <;> simp [Zaw] at hkc'; exact ⟨_, rfl⟩
          have heq : (Op.equal t .nilIface .nilIface).run P w = .ok true w := by
            unfold Op.equal Op.maxDepth Op.equalIn
            rw [Sem.run_bind, run_underlying hd w]
            rfl
          obtain ⟨d, v, g1, g2⟩ := Za8 (F := F) (μ := μ) (op := op) (x := .nilIface) (y := .nilIface) (b := true) (Zi7 heq fun op ho => by rcases ho with rfl | rfl <;> rfl) hk
          refine ⟨d, v, ?_, g2⟩
          have hg : (eqGuard op t x y .nilIface .nilIface).run P w = .ok () w := by
            unfold eqGuard
            cases y <;> simp [Zr1] at hlit
            cases op <;> simp
          simp [execOp, v1, v2, hg, g1]
        · exact hk.elim
      · exact hk.elim
    · rename_i d1 d2 hno h1 h2
      obtain ⟨d, v, g1, g2⟩ := Zlu hT (h.evo h1) (h.evo h2) (w := w) hk
      refine ⟨d, v, ?_, g2⟩
      have hg : (eqGuard op t x y (a.eval x) (a.eval y)).run P w = .ok () w := by
        have n1 : (¬ (a.eval x = .nilIface /\ a.eval y = .nilIface) /\ ¬ (∃ as, a.eval x = .agg as)) ∨ (P.eqGuardType P.depth t = false /\ ∃ as bs, a.eval x = .agg as /\ a.eval y = .agg bs) := by
          unfold Zbd at hk
          have v1 := h.evo h1
          have v2 := h.evo h2
          split at hk <;> first
            | exact hk.elim
            | (have e1 := v1.v_inv; rw [e1]; exact .inl ⟨fun h => (by have e9 := h.1; cases e9), fun ⟨_, h⟩ => (by cases h)⟩)
            | (obtain ⟨a1, c1, e1, -⟩ := v1.sl_inv; rw [e1]; exact .inl ⟨fun h => (by have e9 := h.1; cases e9), fun ⟨_, h⟩ => (by cases h)⟩)
            | (obtain ⟨a1, c1, e1, -⟩ := v1.o_inv; rw [e1]; exact .inl ⟨fun h => (by have e9 := h.1; cases e9), fun ⟨_, h⟩ => (by cases h)⟩)
            | (obtain ⟨a1, e1, -⟩ := v1.ifc_inv; rw [e1]; exact .inl ⟨fun h => (by have e9 := h.1; cases e9), fun ⟨_, h⟩ => (by cases h)⟩)
            | (split at hk
               · rename_i e he
                 split at hk
                 · rename_i n hf ha
                   obtain ⟨as, bs, rfl, rfl, -⟩ := hk.out
                   exact .inr ⟨(Zef hT he hf).1, _, _, Z97 v1, Z97 v2⟩
                 · exact hk.elim
               · exact hk.elim)
        rcases n1 with n1 | ⟨n1, as, bs, e1, e2⟩
        · unfold eqGuard
          generalize a.eval x = va at n1 ⊢
          generalize a.eval y = vb at n1 ⊢
          cases op <;> first | rfl | (cases va <;> first | rfl | (exact absurd ⟨_, rfl⟩ n1.2) | (cases vb <;> first | rfl | exact absurd ⟨rfl, rfl⟩ n1.1))
        · rw [e1, e2]; exact run_eqGuard_agg w op t x y as bs n1
      simp [execOp, hg, g1]
    · exact hk.elim
  case lookup t x i ok =>
    refine ⟨fun c e => (by cases e), ?_⟩
    simp only [Z1q] at hk
    split at hk
    · rename_i d1 d2 h1 h2
      exact lift (Zp9 hT hr (h.evo h1) (h.evo h2) hk) rfl
    · exact hk.elim
  case unOp op t x =>
    refine ⟨fun c e => (by cases e), ?_⟩
    simp only [Z1q] at hk
    split at hk
    · rename_i d hd; exact lift (Zp7 (h.evo hd) hk) rfl
    · exact hk.elim
  case convert src dst x =>
    refine ⟨fun c e => (by cases e), ?_⟩
    simp only [Z1q] at hk
    split at hk
    · rename_i d hd; exact lift (Zjl hT (h.evo hd) hk) rfl
    · exact hk.elim
  case makeInterface t x =>
    refine ⟨fun c e => (by cases e), ?_⟩
    simp only [Z1q] at hk
    split at hk
    · rename_i d hd; exact lift (Zm6 hT (h.evo hd) hk) rfl
    · exact hk.elim
  case makeFunc fn first caps =>
    refine ⟨fun c e => (by cases e), ?_⟩
    exact lift (Zm5 h hk) rfl
  case build t parts =>
    refine ⟨fun c e => (by cases e), ?_⟩
    exact lift (Zm9 hT h hk) rfl
  case fieldAddr t x f =>
    refine ⟨fun c e => (by cases e), ?_⟩
    simp only [Z1q] at hk
    split at hk
    · rename_i d hd; exact lift (Zlw hT (h.evo hd) hk) rfl
    · exact hk.elim
  case field t x f =>
    refine ⟨fun c e => (by cases e), ?_⟩
    simp only [Z1q] at hk
    split at hk
    · rename_i d hd; exact lift (Zia hT (h.evo hd) hk) rfl
    · exact hk.elim
  case indexAddr t x i =>
    refine ⟨fun c e => (by cases e), ?_⟩
    simp only [Z1q] at hk
    split at hk
    · rename_i d1 d2 h1 h2; exact lift (Zm3 hT (h.evo h1) (h.evo h2) hk) rfl
    · exact hk.elim
  case index t x i =>
    refine ⟨fun c e => (by cases e), ?_⟩
    simp only [Z1q] at hk
    split at hk
    · rename_i d1 d2 h1 h2; exact lift (Zid hT (h.evo h1) (h.evo h2) hk) rfl
    · exact hk.elim
  case extract x i =>
    refine ⟨fun c e => (by cases e), ?_⟩
    simp only [Z1q] at hk
    split at hk
    · rename_i d hd; exact lift (Zlx (h.evo hd) hk) rfl
    · exact hk.elim
  case slice t x lo hi mx =>
    refine ⟨fun c e => (by cases e), ?_⟩
    cases mx with
    | some m =>
      simp only [Z1q] at hk
      split at hk
      · rename_i d hd; exact lift (Zjv hT h (h.evo hd) hk) rfl
      · exact hk.elim
    | none =>
      simp only [Z1q] at hk
      split at hk
      · rename_i d hd; exact lift (Zma hT h (h.evo hd) hk) rfl
      · exact hk.elim
  case typeAssert x xt t ok =>
    refine ⟨fun c e => (by cases e), ?_⟩
    simp only [Z1q] at hk
    split at hk
    · rename_i d hd; exact lift (Zm7 hT (h.evo hd) hk) rfl
    · exact hk.elim
  case call c =>
    refine ⟨fun c e => (by cases e), ?_⟩
    obtain ⟨callee, args, argTypes⟩ := c
    cases callee with
    | value f => exact hk.elim
    | invoke r m => exact hk.elim
    | builtin b =>
      have bi : ∀ {x : Sem Value}, (∃ d v, x.run P w = .ok v w /\ VR F μ d v /\ K d) -> (∀ cc, builtin b argTypes type cc (args.map a.eval) = (do pure (.value (<- x)))) ->
          ∃ d v, (execOp a.eval ⟨dst, .call { callee := .builtin b, args, argTypes }, type, pos, after, guard⟩).run P w = .ok (.value v) w /\ VR F μ d v /\ K d := fun {x} ⟨d, v, h1, h2⟩ he =>
        ⟨d, v, by simp only [execOp, resolve, Sem.run_bind, Sem.run_pure, Result.andThen_ok, invoke]; rw [he]; simp [h1], h2⟩
      cases b <;> try exact hk.elim
      case len =>
        simp only [Z1q] at hk
        obtain ⟨args⟩ := args
        obtain ⟨argTypes⟩ := argTypes
        simp only at hk
        split at hk
        · rename_i x t
          split at hk
          · rename_i d hd; exact bi (Zm4 hT (h.evo hd) (ty := type) hk) (fun _ => by simp [builtin])
          · exact hk.elim
        · exact hk.elim
      case max => exact bi (by simpa using Zgl (P := P) (w := w) (ty := type) (ts := argTypes) (mx := true) h hk) (fun _ => rfl)
      case min => exact bi (by simpa using Zgl (P := P) (w := w) (ty := type) (ts := argTypes) (mx := false) h hk) (fun _ => rfl)
end
end Go.Abs

/- Part TxAA of the proofs about the benches of the accordion maker: see the last text of the claim for what is proved. -/
import Derived.RangeFuncIn
import Derived.OrdersIn
import Derived.Laws.AppendOwn
import Derived.Laws.StructEq
import Derived.ChangeKeysEq
import Derived.MapKept
set_option linter.unusedVariables false
set_option linter.unusedSimpArgs false
set_option linter.unnecessarySimpa false
set_option linter.constructorNameAsVariable false

namespace Go.Abs
open Go
def Z5m (P : Program) (fl : TypeId -> Option Nat) : List Field -> Nat -> Option Nat
 | [], off => some off
 | f :: r, off => if f.name = "_" ∨ f.offset ≠ off then none else
  match fl f.type with
  | some k => if P.cellsOf f.type = k then Z5m P fl r (off + k) else none
  | none => none
def Z3e (P : Program) : Nat -> TypeId -> Option Nat
 | 0 => fun _ => none
 | m + 1 => fun t =>
  match P.underlying t with
  | some (.int .i64) => if P.cellsOf t = 1 then some 1 else none
  | some (.array n e) => match Z3e P m e with
   | some k => if P.cellsOf e = k /\ P.cellsOf t = n * k then some (n * k) else none
   | none => none
  | some (.struct fs) => if P.stoodInHeld t then none else
   match Z5m P (Z3e P m) fs.toList 0 with
   | some k => if P.cellsOf t = k then some k else none
   | none => none
  | _ => none
def Z1k (ag : Bool) (l : List Int) : Value := if ag then .agg (l.map (Value.int .i64)).toArray else .int .i64 (l.headD 0)
def Z3j (P : Program) (t : TypeId) : Bool := match P.underlying t with | some (.struct _) | some (.array _ _) => true | _ => false
section
variable {P : Program}
theorem Znp {t : TypeId} {d : TypeDesc} (h : P.underlying t = some d) : ∃ i, P.info? t = some i := by
 unfold Program.underlying at h
 cases hi : P.info? t with
 | some i => exact ⟨i, rfl⟩
 | none => simp [hi] at h
theorem Z93 {t : TypeId} {d : TypeDesc} (h : P.underlying t = some d) (w : World) : (sizeOf t).run P w = .ok (P.cellsOf t) w := by
 obtain ⟨i, hi⟩ := Znp h;exact run_sizeOf w hi
theorem Z8c {m : Nat} {t : TypeId} {n : Nat} (h : Z3e P m t = some n) : ∃ d, P.underlying t = some d /\ P.cellsOf t = n := by
 cases m with
 | zero => simp [Z3e] at h
 | succ m =>
  unfold Z3e at h
  split at h
  ·rename_i hu; split at h
   ·rename_i hc; cases h; exact ⟨_, hu, hc⟩
   ·cases h
  ·rename_i hu; split at h
   ·split at h
    ·rename_i hc; cases h; exact ⟨_, hu, hc.2⟩
    ·cases h
   ·cases h
  ·rename_i hu; split at h
   ·cases h
   ·split at h
    ·split at h
     ·rename_i hc; cases h; exact ⟨_, hu, hc⟩
     ·cases h
    ·cases h
  ·cases h
theorem Zi2 (l : List Int) (off k : Nat) : ((l.map (Value.int .i64)).toArray.extract off (off + k)) = (((l.drop off).take k).map (Value.int .i64)).toArray := by
 apply Array.ext'
 simp [List.extract, List.map_drop, List.map_take]
theorem Z47 {m : Nat} {t : TypeId} {n : Nat} (h : Z3e P m t = some n) (l : List Int) (off : Nat) (hl : off + n <= l.length) (w : World) :
  (part t (l.map (Value.int .i64)).toArray off).run P w = .ok (Z1k (Z3j P t) ((l.drop off).take n)) w := by
 obtain ⟨d, hd, hc⟩ := Z8c h
 cases m with
 | zero => simp [Z3e] at h
 | succ m =>
  have agg : Z3j P t = true -> (part t (l.map (Value.int .i64)).toArray off).run P w = .ok (Z1k (Z3j P t) ((l.drop off).take n)) w := fun ha => by
   have hi : (isAgg t).run P w = .ok true w := by
    unfold isAgg;rw [Sem.run_bind, run_underlying hd w];unfold Z3j at ha;rw [hd] at ha
    cases d <;> simp at ha <;> rfl
   unfold part;simp only [Sem.run_bind, hi, Result.andThen_ok, if_true, Z93 hd, hc, Sem.run_pure, ha, Z1k, Zi2]
  unfold Z3e at h
  split at h
  ·rename_i hu
   split at h
   ·cases h
    have ha : Z3j P t = false := by unfold Z3j; rw [hu]
    have hi : (isAgg t).run P w = .ok false w := by
     unfold isAgg;rw [Sem.run_bind, run_underlying hu w]; rfl
    have hlt : off < l.length := by omega
    unfold part;simp only [Sem.run_bind, hi, Result.andThen_ok, ha, Z1k];have e1 : ((List.map (Value.int .i64) l).toArray)[off]? = some (.int .i64 l[off]) := by simp [hlt]
    have e2 : (List.take 1 (List.drop off l)).head?.getD 0 = l[off] := by
     rw [List.drop_eq_getElem_cons hlt]; rfl
    simp [e1, e2]
   ·cases h
  ·rename_i hu; exact agg (by unfold Z3j; rw [hu])
  ·rename_i hu; exact agg (by unfold Z3j; rw [hu])
  ·cases h
theorem Zen {a b c d : List Int} (h : a.length = b.length) : decide (a ++ c = b ++ d) = (decide (a = b) && decide (c = d)) := by
 by_cases e : a = b
 ·subst e; simp
 ·simp only [e, decide_false, Bool.false_and, decide_eq_false_iff_not];intro he; exact e (List.append_inj he h).1
theorem Z5c : ∀ (m d : Nat) (t : TypeId) (n : Nat), Z3e P m t = some n -> ∀ (xs ys : List Int) (w : World), xs.length = n -> ys.length = n ->
  (Op.equalIn (d + m) t (Z1k (Z3j P t) xs) (Z1k (Z3j P t) ys)).run P w = .ok (decide (xs = ys)) w
 | 0, d, t, n, h, _, _, _, _, _ => by simp [Z3e] at h
 | m + 1, d, t, n, h, xs, ys, w, hx, hy => by
  rw [show d + (m + 1) = (d + m) + 1 by omega];unfold Z3e at h
  split at h
  ·rename_i hu
   split at h
   ·cases h
    have ha : Z3j P t = false := by unfold Z3j; rw [hu]
    match xs, hx, ys, hy with
    | [x], _, [y], _ =>
     rw [ha];simp only [Z1k, List.headD_cons];rw [if_neg (by simp), if_neg (by simp), run_equalIn_int (P := P) w (d + m) t .i64 .i64 x y hu]
     congr 1
     by_cases e : x = y <;> simp [e]
   ·cases h
  ·rename_i n' e hu
   split at h
   ·rename_i k hk
    split at h
    ·rename_i hc; cases h
     have ha : Z3j P t = true := by unfold Z3j; rw [hu]
     obtain ⟨i, hi⟩ := Znp (Z8c hk).choose_spec.1;rw [ha];simp only [Z1k, if_true];rw [run_equalIn_array w (d + m) _ _ hu hi, hc.1];have key : ∀ (j c : Nat), j + c = n' -> (Op.eqItems (d + m) e k (xs.map (Value.int .i64)).toArray (ys.map (Value.int .i64)).toArray (List.range' j c)).run P w = .ok (decide (xs.drop (j * k) = ys.drop (j * k))) w := fun j c => by
      induction c generalizing j with
      | zero =>
       intro hj;simp only [List.range'_zero, Op.eqItems, Sem.run_pure];rw [List.drop_eq_nil_of_le (by rw [hx, <- hj]; simp), List.drop_eq_nil_of_le (by rw [hy, <- hj]; simp)];simp
      | succ c ih =>
       intro hj;have hle : j * k + k <= n' * k := by
        have : (j + 1) * k <= n' * k := Nat.mul_le_mul_right _ (by omega);rw [Nat.add_mul] at this; omega
       simp only [List.range'_succ, Op.eqItems, Sem.run_bind];rw [Z47 hk xs (j * k) (by omega) w];simp only [Result.andThen_ok];rw [Z47 hk ys (j * k) (by omega) w];simp only [Result.andThen_ok];have e1 := Z5c m d e k hk ((xs.drop (j * k)).take k) ((ys.drop (j * k)).take k) w (by simp; omega) (by simp; omega);rw [e1];simp only [Result.andThen_ok];have e2 := ih (j + 1) (by omega);have sx : xs.drop (j * k) = (xs.drop (j * k)).take k ++ xs.drop ((j + 1) * k) := by
        have := (List.take_append_drop k (xs.drop (j * k))).symm;rw [List.drop_drop] at this;rw [show (j + 1) * k = j * k + k by rw [Nat.add_mul]; omega];exact this
       have sy : ys.drop (j * k) = (ys.drop (j * k)).take k ++ ys.drop ((j + 1) * k) := by
        have := (List.take_append_drop k (ys.drop (j * k))).symm;rw [List.drop_drop] at this;rw [show (j + 1) * k = j * k + k by rw [Nat.add_mul]; omega];exact this
       have e3 : decide (xs.drop (j * k) = ys.drop (j * k)) = (decide ((xs.drop (j * k)).take k = (ys.drop (j * k)).take k) && decide (xs.drop ((j + 1) * k) = ys.drop ((j + 1) * k))) := by
        rw [<- Zen (by simp; omega), <- sx, <- sy]
       rw [e3]
       by_cases hb : (xs.drop (j * k)).take k = (ys.drop (j * k)).take k
       ·simp only [hb, decide_true, Bool.not_true, Bool.true_and];simpa using e2
       ·simp [hb]
     have := key 0 n' (by omega);simp only [Nat.zero_mul, List.drop_zero] at this;rw [List.range_eq_range']; exact this
    ·cases h
   ·cases h
  ·rename_i fs hu
   split at h
   ·cases h
   ·rename_i hst
    split at h
    ·rename_i k hgo
     split at h
     ·rename_i hc; cases h
      have ha : Z3j P t = true := by unfold Z3j; rw [hu]
      have hf : P.fieldsOf t = fs := by unfold Program.fieldsOf; rw [hu]
      rw [ha];simp only [Z1k, if_true];rw [run_equalIn_struct w (d + m) t _ _ (by rw [hf]; exact hu) (by simpa using hst), hf];have key : ∀ (l : List Field) (off : Nat), Z5m P (Z3e P m) l off = some n -> (Op.eqFields (d + m) (xs.map (Value.int .i64)).toArray (ys.map (Value.int .i64)).toArray l).run P w = .ok (decide (xs.drop off = ys.drop off)) w := fun l => by
       induction l with
       | nil =>
        intro off hg;simp only [Z5m, Option.some.injEq] at hg;subst hg;simp only [Op.eqFields, Sem.run_pure];rw [List.drop_eq_nil_of_le (by omega), List.drop_eq_nil_of_le (by omega)];simp
       | cons f r ih =>
        intro off hg;simp only [Z5m] at hg
        split at hg
        ·cases hg
        ·rename_i hno
         simp only [not_or, Decidable.not_not] at hno;obtain ⟨hnm, rfl⟩ := hno
         split at hg
         ·rename_i k hk
          split at hg
          ·rename_i hck
           have mono : ∀ (l : List Field) (o n : Nat), Z5m P (Z3e P m) l o = some n -> o <= n := fun l => by
            induction l with
            | nil => intro o n hg; simp only [Z5m, Option.some.injEq] at hg; omega
            | cons f r ih =>
             intro o n hg;simp only [Z5m] at hg
             split at hg
             ·cases hg
             ·split at hg
              ·split at hg
               ·have := ih _ _ hg; omega
               ·cases hg
              ·cases hg
           have hle := mono _ _ _ hg;simp only [Op.eqFields, hnm, ne_eq, not_false_eq_true, if_true, Sem.run_bind];rw [Z47 hk xs f.offset (by omega) w];simp only [Result.andThen_ok];rw [Z47 hk ys f.offset (by omega) w];simp only [Result.andThen_ok];rw [Z5c m d f.type k hk ((xs.drop f.offset).take k) ((ys.drop f.offset).take k) w (by simp; omega) (by simp; omega)];simp only [Result.andThen_ok];have e2 := ih (f.offset + k) hg;have sx : xs.drop f.offset = (xs.drop f.offset).take k ++ xs.drop (f.offset + k) := by
            have := (List.take_append_drop k (xs.drop f.offset)).symm;rw [List.drop_drop] at this; exact this
           have sy : ys.drop f.offset = (ys.drop f.offset).take k ++ ys.drop (f.offset + k) := by
            have := (List.take_append_drop k (ys.drop f.offset)).symm;rw [List.drop_drop] at this; exact this
           have e3 : decide (xs.drop f.offset = ys.drop f.offset) = (decide ((xs.drop f.offset).take k = (ys.drop f.offset).take k) && decide (xs.drop (f.offset + k) = ys.drop (f.offset + k))) := by
            rw [<- Zen (by simp; omega), <- sx, <- sy]
           rw [e3]
           by_cases hb : (xs.drop f.offset).take k = (ys.drop f.offset).take k
           ·simp only [hb, decide_true, Bool.not_true, Bool.true_and];simpa using e2
           ·simp [hb]
          ·cases hg
         ·cases hg
      have := key fs.toList 0 hgo;simpa using this
     ·cases h
    ·cases h
  ·cases h
theorem Z5d (em : Bool) : ∀ (m d : Nat) (t : TypeId) (n : Nat), Z3e P m t = some n -> ∀ (xs : List Int) (w : World), xs.length = n -> (Instr.checkKey em (d + m) t (Z1k (Z3j P t) xs)).run P w = .ok () w
 | 0, d, t, n, h, _, _, _ => by simp [Z3e] at h
 | m + 1, d, t, n, h, xs, w, hx => by
  rw [show d + (m + 1) = (d + m) + 1 by omega];unfold Z3e at h
  split at h
  ·rename_i hu
   split at h
   ·have ha : Z3j P t = false := by unfold Z3j; rw [hu]
    rw [ha];simp [Z1k, Instr.checkKey, run_underlying hu]
   ·cases h
  ·rename_i n' e hu
   split at h
   ·rename_i k hk
    split at h
    ·rename_i hc; cases h
     have ha : Z3j P t = true := by unfold Z3j; rw [hu]
     obtain ⟨de, hde, -⟩ := Z8c hk;rw [ha];simp only [Z1k, if_true, Instr.checkKey, Sem.run_bind, run_underlying hu, Result.andThen_ok];simp only [Std.Legacy.Range.forIn_eq_forIn_range', Std.Legacy.Range.size, Nat.sub_zero, Nat.add_one_sub_one, Nat.div_one];have each : ∀ j ∈ List.range' 0 n', j * k + k <= xs.length := fun j hj => by
      simp only [List.mem_range'_1] at hj;have : (j + 1) * k <= n' * k := Nat.mul_le_mul_right _ (by omega);rw [Nat.add_mul] at this; omega
     generalize List.range' 0 n' = is at each
     induction is with
     | nil => simp
     | cons j is ih =>
      have hle := each j (by simp);simp only [List.forIn_cons, Sem.run_bind, Z93 hde, hc.1, Result.andThen_ok, Z47 hk xs (j * k) hle w, Z5d em m d e k hk ((xs.drop (j * k)).take k) w (by simp; omega), Sem.run_pure];exact ih (fun y hy => each y (by simp [hy]))
    ·cases h
   ·cases h
  ·rename_i fs hu
   split at h
   ·cases h
   ·split at h
    ·rename_i k hgo
     split at h
     ·rename_i hc; cases h
      have ha : Z3j P t = true := by unfold Z3j; rw [hu]
      rw [ha];simp only [Z1k, if_true, Instr.checkKey, Sem.run_bind, run_underlying hu, Result.andThen_ok];rw [<- Array.forIn_toList];have mono : ∀ (l : List Field) (o n : Nat), Z5m P (Z3e P m) l o = some n -> o <= n := fun l => by
       induction l with
       | nil => intro o n hg; simp only [Z5m, Option.some.injEq] at hg; omega
       | cons f r ih =>
        intro o n hg;simp only [Z5m] at hg
        split at hg
        ·cases hg
        ·split at hg
         ·split at hg
          ·have := ih _ _ hg; omega
          ·cases hg
         ·cases hg
      have each : ∀ (l : List Field) (off : Nat), Z5m P (Z3e P m) l off = some n -> ∀ f ∈ l, f.name ≠ "_" /\ ∃ k, Z3e P m f.type = some k /\ f.offset + k <= n := fun l => by
       induction l with
       | nil => intro _ _ f hf; simp at hf
       | cons f r ih =>
        intro off hg;simp only [Z5m] at hg
        split at hg
        ·cases hg
        ·rename_i hno
         simp only [not_or, Decidable.not_not] at hno;obtain ⟨hnm, rfl⟩ := hno
         split at hg
         ·rename_i k hk
          split at hg
          ·intro f' hf';rcases List.mem_cons.1 hf' with rfl | hf'
           ·exact ⟨hnm, k, hk, mono _ _ _ hg⟩
           ·exact ih _ hg f' hf'
          ·cases hg
         ·cases hg
      have each := each fs.toList 0 hgo
      generalize fs.toList = L at each
      induction L with
      | nil => simp
      | cons f L ih =>
       obtain ⟨hnm, k, hk, hle⟩ := each f (by simp);simp only [List.forIn_cons, Sem.run_bind, hnm, ne_eq, not_false_eq_true, if_true, Result.andThen_ok, Z47 hk xs f.offset (by omega) w, Z5d em m d f.type k hk ((xs.drop f.offset).take k) w (by simp; omega), Sem.run_pure];exact ih (fun y hy => each y (by simp [hy]))
     ·cases h
    ·cases h
  ·cases h
theorem Zb0 {m : Nat} (hm : m <= 10000) {t : TypeId} {n : Nat} (h : Z3e P m t = some n) (xs : List Int) (hx : xs.length = n) (w : World) : ∀ (es : List MapEntry) (ks : List (List Int)), es.length = ks.length ->
  (∀ (i : Nat) (e : MapEntry) (l : List Int), es[i]? = some e -> ks[i]? = some l -> e.key = Z1k (Z3j P t) l /\ l.length = n) -> ∀ i0,
  (Instr.findAsking t (Z1k (Z3j P t) xs) es i0).run P w = .ok ((ks.findIdx? (· == xs)).bind fun j => (es[j]?).map fun e => (i0 + j, e.val)) w
 | [], ks, hl, _, i0 => by
  cases ks with
  | nil => simp [Instr.findAsking]
  | cons => simp at hl
 | e :: es, [], hl, _, _ => by simp at hl
 | e :: es, k :: ks, hl, hk, i0 => by
  obtain ⟨h1, h2⟩ := hk 0 e k rfl rfl;have ih := Zb0 hm h xs hx w es ks (by simpa using hl) (fun i e l a b => hk (i + 1) e l (by simpa using a) (by simpa using b)) (i0 + 1);have heq : (Op.equal t (Z1k (Z3j P t) xs) e.key).run P w = .ok (decide (xs = k)) w := by
   rw [h1];have := Z5c m (10000 - m) t n h xs k w hx h2;rw [show 10000 - m + m = 10000 by omega] at this;exact this
  simp only [Instr.findAsking, Sem.run_bind, heq, Result.andThen_ok]
  by_cases e1 : xs = k
  ·subst e1; simp [List.findIdx?_cons]
  ·have : (k == xs) = false := by simpa using fun e => e1 e.symm
   simp only [decide_eq_true_eq, e1, Bool.false_eq_true, if_false, ih, List.findIdx?_cons, this]
   cases ks.findIdx? (· == xs) with
   | none => simp
   | some j => simp [Nat.add_assoc, Nat.add_comm 1 j]
theorem Z7r {q : IntKind} (x : Int) : ∀ (es : List MapEntry) (ks : List (List Int)), es.length = ks.length ->
  (∀ (i : Nat) (e : MapEntry) (l : List Int), es[i]? = some e -> ks[i]? = some l -> e.key = Z1k false l /\ l.length = 1) -> ∀ i0,
  Instr.findNow (.int q) (.int .i64 x) es i0 = some ((ks.findIdx? (· == [x])).bind fun j => (es[j]?).map fun e => (i0 + j, e.val))
 | [], ks, hl, _, i0 => by
  cases ks with
  | nil => simp [Instr.findNow]
  | cons => simp at hl
 | e :: es, [], hl, _, _ => by simp at hl
 | e :: es, k :: ks, hl, hk, i0 => by
  obtain ⟨h1, h2⟩ := hk 0 e k rfl rfl;have ih := Z7r (q := q) x es ks (by simpa using hl) (fun i e l a b => hk (i + 1) e l (by simpa using a) (by simpa using b)) (i0 + 1)
  match k, h2 with
  | [y], _ =>
   simp only [Z1k, List.headD_cons] at h1;rw [if_neg (by simp)] at h1;simp only [Instr.findNow, h1, Instr.sameNow, if_true]
   by_cases e1 : x = y
   ·subst e1; simp [List.findIdx?_cons]
   ·have e2 : (x == y) = false := by simpa using e1
    have : (([y] : List Int) == [x]) = false := by simpa using fun e => e1 e.symm
    simp only [e2, ih, List.findIdx?_cons, this]
    cases ks.findIdx? (· == [x]) with
    | none => simp
    | some j => simp [Nat.add_assoc, Nat.add_comm 1 j]
theorem Zd2 {m : Nat} (hm : m <= 10000) {t : TypeId} {n : Nat} (h : Z3e P m t = some n) (xs : List Int) (hx : xs.length = n) (w : World) (es : List MapEntry) (ks : List (List Int)) (hl : es.length = ks.length)
  (hk : ∀ (i : Nat) (e : MapEntry) (l : List Int), es[i]? = some e -> ks[i]? = some l -> e.key = Z1k (Z3j P t) l /\ l.length = n) :
  (Instr.findKey t (Z1k (Z3j P t) xs) es).run P w = .ok ((ks.findIdx? (· == xs)).bind fun j => (es[j]?).map fun e => (j, e.val)) w := by
 have ask := Zb0 hm h xs hx w es ks hl hk 0;simp only [Nat.zero_add] at ask;obtain ⟨d, hd, hc⟩ := Z8c h
 cases m with
 | zero => simp [Z3e] at h
 | succ m =>
  have agg : Z3j P t = true -> (Instr.findKey t (Z1k (Z3j P t) xs) es).run P w = .ok ((ks.findIdx? (· == xs)).bind fun j => (es[j]?).map fun e => (j, e.val)) w := fun ha => by
   unfold Instr.findKey;rw [Sem.run_bind, run_underlying hd w];simp only [Result.andThen_ok]
   cases es with
   | nil =>
    cases ks with
    | nil => simp [Instr.findNow]
    | cons => simp at hl
   | cons e es =>
    have : Instr.findNow d (Z1k (Z3j P t) xs) (e :: es) 0 = none := by
     have hs : Instr.sameNow d (Z1k (Z3j P t) xs) e.key = none := by
      rw [ha]; simp only [Z1k, if_true];unfold Z3j at ha;rw [hd] at ha
      cases d <;> simp at ha <;> rfl
     simp only [Instr.findNow, hs]
    rw [this];exact ask
  have h' := h;unfold Z3e at h'
  split at h'
  ·rename_i hu
   split at h'
   ·cases h'
    have ha : Z3j P t = false := by unfold Z3j; rw [hu]
    match xs, hx with
    | [x], _ =>
     rw [ha] at hk ⊢;have := Z7r (q := .i64) x es ks hl hk 0;simp only [Nat.zero_add] at this;unfold Instr.findKey;rw [Sem.run_bind, run_underlying hu w];simp only [Result.andThen_ok, Z1k, List.headD_cons];rw [if_neg (by simp), this];rfl
   ·cases h'
  ·rename_i hu; exact agg (by unfold Z3j; rw [hu])
  ·rename_i hu; exact agg (by unfold Z3j; rw [hu])
  ·cases h'
theorem Zeo (ag : Bool) (xs : List Int) (w : World) : (Instr.keyThatStays (Z1k ag xs) (Z1k ag xs)).run P w = .ok (Z1k ag xs) w := by
 have : Instr.sameBits 10000 (Z1k ag xs) (Z1k ag xs) = true := by
  cases ag
  ·simp [Z1k, Instr.sameBits]
  ·simp only [Z1k, if_true];show Instr.sameBits (9999 + 1) _ _ = true;simp only [Instr.sameBits, beq_self_eq_true, Bool.true_and, List.all_eq_true];intro p hp;obtain ⟨i, hi, e⟩ := List.getElem_of_mem hp;rw [List.getElem_zip] at e;rw [<- e];simp [Instr.sameBits]
 simp [Instr.keyThatStays, this]
end
end Go.Abs

namespace Go.Abs
open Go
inductive D where
 | v (x : Value)
 | agg (cs : List D)
 | arr (cs : List D)
 | tup (cs : List D)
 | sl (sz : Nat) (es : List D)
 | ip (sz : Nat) (es : List D) (i off : Nat)
 | cb (d : D) (off : Nat)
 | b (k off : Nat)
 | bs (k off : Nat)
 | p (k sz i off : Nat)
 | o (k sz n : Nat)
 | fn (f : FuncId) (caps : List D)
 | yv (k : Nat)
 | mv (k : Nat)
 | z0
 | ifc (t : TypeId) (d : D)
 | any
def D.cells : D -> List D
 | .agg cs => cs
 | .arr cs => cs
 | d => [d]
def Zxj : Value := .iface 183 (.agg #[.pointer (some ⟨4, 149, none⟩)])
structure Fz where
 f : Nat -> Nat -> Option Value
 kn : True
instance : CoeFun Fz (fun _ => Nat -> Nat -> Option Value) := ⟨Fz.f⟩
def Fz.nil : Fz := ⟨fun b o => if b = 0 /\ o = 0 then some Zxj else none, by simp⟩
structure Mu where
 loc : Nat -> Option (Option (Nat × Nat))
 inn : Nat -> Nat -> Prop
instance : CoeFun Mu (fun _ => Nat -> Option (Option (Nat × Nat))) := ⟨Mu.loc⟩
def Mu.ren (μ : Mu) (ρ : Nat -> Nat) : Mu := ⟨fun i => μ.loc (ρ i), fun i => μ.inn (ρ i)⟩
@[simp] theorem Mu.ren_loc (μ : Mu) (ρ : Nat -> Nat) (i : Nat) : (μ.ren ρ) i = μ (ρ i) := rfl
@[simp] theorem Mu.ren_inn (μ : Mu) (ρ : Nat -> Nat) (i b : Nat) : (μ.ren ρ).inn i b = μ.inn (ρ i) b := rfl
inductive CR (F : Fz) : D -> Value -> Prop
 | v (x : Value) (ho : x.oneCell' = true) : CR F (.v x) x
 | any (x : Value) : CR F .any x
 | agg (cs : List D) (vs : Array Value) (hl : cs.length = vs.size) (h : ∀ (i : Nat) (c : D) (v : Value), cs[i]? = some c -> vs[i]? = some v -> CR F c v) (ho : ∀ (i : Nat) (v : Value), vs[i]? = some v -> v.oneCell' = true) : CR F (.agg cs) (.agg vs)
 | arr (cs : List D) (vs : Array Value) (hl : cs.length = vs.size) (h : ∀ (i : Nat) (c : D) (v : Value), cs[i]? = some c -> vs[i]? = some v -> CR F c v) (ho : ∀ (i : Nat) (v : Value), vs[i]? = some v -> v.oneCell' = true) : CR F (.arr cs) (.agg vs)
 | tup (cs : List D) (vs : Array Value) (hl : cs.length = vs.size) (h : ∀ (i : Nat) (c : D) (v : Value), cs[i]? = some c -> vs[i]? = some v -> CR F c v) : CR F (.tup cs) (.tuple vs)
 | slE (sz : Nat) (a : Option Addr) (cap : Nat) : CR F (.sl sz []) (.slice a 0 cap)
 | z0 (a : Option Addr) : CR F .z0 (.slice a 0 0)
 | sl (sz : Nat) (es : List D) (b o cap : Nat) (val : Nat -> Nat -> Value) (hc : es.length <= cap) (hz : ∀ (i : Nat) (e : D), es[i]? = some e -> e.cells.length = sz)
   (hf : ∀ (i : Nat) (e : D) (r : Nat) (c : D), es[i]? = some e -> e.cells[r]? = some c -> F b (o + i * sz + r) = some (val i r) /\ (val i r).oneCell' = true)
   (hv : ∀ (i : Nat) (e : D) (r : Nat) (c : D), es[i]? = some e -> e.cells[r]? = some c -> CR F c (val i r)) : CR F (.sl sz es) (.slice (some ⟨b, o, none⟩) es.length cap)
 | ip (sz : Nat) (es : List D) (b o i off : Nat) (val : Nat -> Nat -> Value) (hz : ∀ (i : Nat) (e : D), es[i]? = some e -> e.cells.length = sz)
   (hf : ∀ (i : Nat) (e : D) (r : Nat) (c : D), es[i]? = some e -> e.cells[r]? = some c -> F b (o + i * sz + r) = some (val i r) /\ (val i r).oneCell' = true)
   (hv : ∀ (i : Nat) (e : D) (r : Nat) (c : D), es[i]? = some e -> e.cells[r]? = some c -> CR F c (val i r)) : CR F (.ip sz es i off) (.pointer (some ⟨b, o + i * sz + off, none⟩))
 | cb (d : D) (b o off : Nat) (val : Nat -> Value)
   (hf : ∀ (r : Nat) (c : D), d.cells[r]? = some c -> F b (o + r) = some (val r) /\ (val r).oneCell' = true)
   (hv : ∀ (r : Nat) (c : D), d.cells[r]? = some c -> CR F c (val r)) : CR F (.cb d off) (.pointer (some ⟨b, o + off, none⟩))
 | fn (f : FuncId) (cs : List D) (vs : Array Value) (hl : cs.length = vs.size) (h : ∀ (i : Nat) (c : D) (v : Value), cs[i]? = some c -> vs[i]? = some v -> CR F c v) : CR F (.fn f cs) (.func (.func f) #[] vs)
 | ifc (t : TypeId) (d : D) (v : Value) (h : CR F d v) : CR F (.ifc t d) (.iface t v)
inductive VR (F : Fz) (μ : Mu) : D -> Value -> Prop
 | cl (d : D) (v : Value) (h : CR F d v) : VR F μ d v
 | agg (cs : List D) (vs : Array Value) (hl : cs.length = vs.size) (h : ∀ (i : Nat) (c : D) (v : Value), cs[i]? = some c -> vs[i]? = some v -> VR F μ c v) (ho : ∀ (i : Nat) (v : Value), vs[i]? = some v -> v.oneCell' = true) : VR F μ (.agg cs) (.agg vs)
 | arr (cs : List D) (vs : Array Value) (hl : cs.length = vs.size) (h : ∀ (i : Nat) (c : D) (v : Value), cs[i]? = some c -> vs[i]? = some v -> VR F μ c v) (ho : ∀ (i : Nat) (v : Value), vs[i]? = some v -> v.oneCell' = true) : VR F μ (.arr cs) (.agg vs)
 | tup (cs : List D) (vs : Array Value) (hl : cs.length = vs.size) (h : ∀ (i : Nat) (c : D) (v : Value), cs[i]? = some c -> vs[i]? = some v -> VR F μ c v) : VR F μ (.tup cs) (.tuple vs)
 | fn (f : FuncId) (cs : List D) (vs : Array Value) (hl : cs.length = vs.size) (h : ∀ (i : Nat) (c : D) (v : Value), cs[i]? = some c -> vs[i]? = some v -> VR F μ c v) : VR F μ (.fn f cs) (.func (.func f) #[] vs)
 | ifc (t : TypeId) (d : D) (v : Value) (h : VR F μ d v) : VR F μ (.ifc t d) (.iface t v)
 | b (k off b m : Nat) (h : μ k = some (some (b, m))) : VR F μ (.b k off) (.pointer (some ⟨b, off, none⟩))
 | bs (k off b m : Nat) (h : μ k = some (some (b, m))) : VR F μ (.bs k off) (.pointer (some ⟨b, off, none⟩))
 | p (k sz i off b m : Nat) (h : μ k = some (some (b, m))) : VR F μ (.p k sz i off) (.pointer (some ⟨b, i * sz + off, none⟩))
 | o (k sz n b m cap : Nat) (h : μ k = some (some (b, m))) (hc : n <= cap) (hm : cap * sz <= m) : VR F μ (.o k sz n) (.slice (some ⟨b, 0, none⟩) n cap)
 | oNil (k sz : Nat) (a : Option Addr) (h : μ k = some none) : VR F μ (.o k sz 0) (.slice a 0 0)
 | yv (k b m : Nat) (h : μ k = some (some (b, m))) : VR F μ (.yv k) (.func (.yield b) #[] #[])
 | mv (k b m : Nat) (h : μ k = some (some (b, m))) : VR F μ (.mv k) (.map (some b))
inductive OB where
 | mp (kn : Nat) (ents : List (List Int × D))
 | mpx (kn : Nat) (ents : List (List Int × D)) (bs : List Nat) (clock : Nat)
 | mi (k since : Nat) (seen : List Nat) (stepped : Nat)
 | lp (st : LoopState) (pend : Option Code) (env : List (Nat × D)) (nt : Nat) (params : List Nat) (assign body : Code)
 | gr (sz : Nat) (ents : List (Value × Option (List D)))
 | si (s : ByteArray) (pos : Nat)
 | ch (b : Nat)
 | mk
inductive Blk where
 | box (d : D)
 | els (sz : Nat) (es : List D)
 | elo (sz : Nat) (es : List D)
 | ob (x : OB)
 | dead
def Blk.es : Blk -> Option (Nat × List D)
 | .box d => some (d.cells.length, [d])
 | .els sz es => some (sz, es)
 | .elo sz es => some (sz, es)
 | _ => none
def Blk.obj : Blk -> Option OB
 | .ob x => some x
 | _ => none
def Blk.live : Blk -> Bool
 | .dead => false
 | _ => true
def Z17 (H : List Blk) (k : Nat) : Option (Nat × List D) := (H[k]?).bind Blk.es
def Z13 (H : List Blk) (k : Nat) : Option OB := (H[k]?).bind Blk.obj
def Z20 (H : List Blk) (k : Nat) : Bool := ((H[k]?).map Blk.live).getD false
theorem Z15 {H : List Blk} {k : Nat} {y : Nat × List D} (h : Z17 H k = some y) : Z20 H k = true := by
 unfold Z17 at h; unfold Z20
 cases hx : H[k]? with
 | none => rw [hx] at h; simp at h
 | some x => rw [hx] at h; cases x <;> simp [Blk.es, Blk.live] at h ⊢
theorem Z2j {H : List Blk} {k : Nat} {y : OB} (h : Z13 H k = some y) : Z20 H k = true := by
 unfold Z13 at h; unfold Z20
 cases hx : H[k]? with
 | none => rw [hx] at h; simp at h
 | some x => rw [hx] at h; cases x <;> simp [Blk.obj, Blk.live] at h ⊢
theorem Zlo {H : List Blk} {k : Nat} (h : Z20 H k = true) : (∃ y, Z17 H k = some y) ∨ ∃ x, Z13 H k = some x := by
 unfold Z20 at h; unfold Z17 Z13
 cases hx : H[k]? with
 | none => rw [hx] at h; simp at h
 | some x => rw [hx] at h; cases x <;> simp [Blk.es, Blk.obj, Blk.live] at h ⊢
theorem Z6w {H : List Blk} {k : Nat} {y : OB} (h : Z13 H k = some y) : Z17 H k = none := by
 unfold Z13 at h; unfold Z17
 cases hx : H[k]? with
 | none => rfl
 | some x => rw [hx] at h; cases x <;> simp [Blk.obj, Blk.es] at h ⊢
def Z40 (μ : Mu) (k b : Nat) : Prop := (∃ m, μ k = some (some (b, m))) ∨ μ.inn k b
def Own (μ : Mu) (H : List Blk) (b : Nat) : Prop := ∃ k, Z20 H k = true /\ Z40 μ k b
mutual
def frD : D -> Bool
 | .agg cs => frL cs
 | .arr cs => frL cs
 | .tup cs => frL cs
 | .fn _ cs => frL cs
 | .ifc _ d => frD d
 | .b _ _ => false
 | .bs _ _ => false
 | .p _ _ _ _ => false
 | .o _ _ _ => false
 | .yv _ => false
 | .mv _ => false
 | _ => true
def frL : List D -> Bool
 | [] => true
 | d :: r => frD d && frL r
end
theorem Z30 : ∀ {l : List D}, frL l = true ↔ ∀ d ∈ l, frD d = true
 | [] => by simp [frL]
 | d :: r => by simp [frL, Z30 (l := r)]
structure FrL (l : List D) : Prop where
 out : ∀ d ∈ l, frD d = true
theorem FrL.nil : FrL [] := ⟨fun d h => by simp at h⟩
theorem FrL.app {a b : List D} (h : FrL a) (h' : FrL b) : FrL (a ++ b) := ⟨fun d hd => (List.mem_append.1 hd).elim (h.out d) (h'.out d)⟩
theorem FrL.set {a : List D} (h : FrL a) {i : Nat} {d : D} (hd : frD d = true) : FrL (a.set i d) := ⟨fun x hx => by
 rcases List.mem_or_eq_of_mem_set hx with hx | rfl
 ·exact h.out x hx
 ·exact hd⟩
theorem FrL.rep {n : Nat} {d : D} (hd : frD d = true) : FrL (List.replicate n d) := ⟨fun x hx => by rw [List.eq_of_mem_replicate hx]; exact hd⟩
def BFr (x : Blk) : Prop := ∀ sz es, x = .els sz es -> FrL es
def Z1l (F : Fz) (μ : Mu) (sz : Nat) (es : List D) (c : Array Value) : Prop :=
 ∀ (i : Nat) (e : D), es[i]? = some e -> e.cells.length = sz /\ ∀ (r : Nat) (d : D), e.cells[r]? = some d -> ∃ v, c[i * sz + r]? = some v /\ v.oneCell' = true /\ VR F μ d v
def Z1c : List (Nat × D) -> Nat -> Option D
 | [], _ => none
 | (t, d) :: e, n => if t = n then some d else Z1c e n
def OBR (F : Fz) (μ : Mu) (k : Nat) (w : World) : OB -> Prop
 | .mp kn ents => ∃ b es clock, μ k = some (some (b, 0)) /\ w.heap[b]? = some (.map es clock) /\ es.size = ents.length /\ (∀ (i : Nat) (e : MapEntry), es[i]? = some e -> e.born < clock) /\ (∀ (i j : Nat) (e e' : MapEntry), es[i]? = some e -> es[j]? = some e' -> e.born = e'.born -> i = j) /\
   (∀ (i : Nat) (e : MapEntry) (x : List Int × D), es[i]? = some e -> ents[i]? = some x -> e.key = Z1k (kn != 0) x.1 /\ x.1.length = Nat.max 1 kn /\ CR F x.2 e.val) /\ ∀ c, ¬ μ.inn k c
 | .mpx kn ents bs clock => ∃ b es, μ k = some (some (b, 0)) /\ w.heap[b]? = some (.map es clock) /\ es.size = ents.length /\ es.toList.map (·.born) = bs /\ (∀ c ∈ bs, c < clock) /\ bs.Nodup /\
   (∀ (i : Nat) (e : MapEntry) (x : List Int × D), es[i]? = some e -> ents[i]? = some x -> e.key = Z1k (kn != 0) x.1 /\ x.1.length = Nat.max 1 kn /\ CR F x.2 e.val) /\ ∀ c, ¬ μ.inn k c
 | .mi k' since seen stepped => ∃ b bm m, μ k = some (some (b, 0)) /\ μ k' = some (some (bm, m)) /\ w.heap[b]? = some (.mapIter (some bm) since seen.toArray stepped) /\ ∀ c, ¬ μ.inn k c
 | .lp st pend env nt params assign body => ∃ b r, μ k = some (some (b, 0)) /\ w.heap[b]? = some (.loop r) /\ r.state = st /\ r.pending = pend /\ r.params.toList = params /\ r.assign = assign /\ r.body = body /\ r.tmps.size = nt /\
   (∀ t d, Z1c env t = some d -> ∃ v, r.tmps[t]? = some v /\ VR F μ d v) /\ ∀ c, ¬ μ.inn k c
 | .gr sz ents => μ k = some none /\ ∃ loc : Nat -> Nat, (∀ (j : Nat) (e : Value) (row : List D), ents[j]? = some (e, some row) -> ∃ c t cap, e = .slice (some ⟨loc j, 0, none⟩) row.length cap /\ row.length <= cap /\ cap * sz <= c.size /\ w.heap[loc j]? = some (.cells c t (0, 0)) /\ Z1l F μ sz row c /\ FrL row /\ μ.inn k (loc j)) /\
   ∀ (i j : Nat) (e e' : Value) (row row' : List D), ents[i]? = some (e, some row) -> ents[j]? = some (e', some row') -> loc i = loc j -> i = j
 | .si s pos => ∃ b, μ k = some (some (b, 0)) /\ w.heap[b]? = some (.stringIter s pos) /\ ∀ c, ¬ μ.inn k c
 | .ch b => μ k = some (some (b, 0)) /\ w.heap[b]? = some (.chan 0 #[] false 0 0 false) /\ ∀ c, ¬ μ.inn k c
 | .mk => μ k = some none /\ ∀ c, μ.inn k c -> w.heap[c]? = some (.deferred (some []))
@[simp] def OB.nv : OB -> Option (Option (Nat × Nat)) -> Prop
 | .gr _ _, _ => True
 | .ch _, _ => True
 | _, y => y ≠ none
def knB (_ : Nat) : Option (Obj -> Prop) := none
structure HR (F : Fz) (μ : Mu) (H : List Blk) (w : World) : Prop where
 dom : ∀ k, H.length <= k -> μ k = none
 row : ∀ k sz es, Z17 H k = some (sz, es) -> μ k ≠ none -> (μ k = some none /\ es = []) ∨
  ∃ b m c t, μ k = some (some (b, m)) /\ w.heap[b]? = some (.cells c t (0, 0)) /\ c.size = m /\ es.length * sz <= m /\ Z1l F μ sz es c
 plain : ∀ k y, Z17 H k = some y -> ∀ b, ¬ μ.inn k b
 obj : ∀ k x, Z13 H k = some x -> x.nv (μ k) -> OBR F μ k w x
 non : ∀ k, μ k = none -> ∀ b, ¬ μ.inn k b
 inj : ∀ k k' b, Z20 H k = true -> Z20 H k' = true -> Z40 μ k b -> Z40 μ k' b -> k = k'
 lt : ∀ b, Own μ H b -> b < w.heap.size
 frz : ∀ b o v, F b o = some v -> w.cell? ⟨b, o, none⟩ = some v /\ ¬ Own μ H b
 fr : ∀ (k : Nat) (x : Blk), H[k]? = some x -> BFr x
 kb : ∀ (b : Nat) (p : Obj -> Prop), knB b = some p -> (∃ o, w.heap[b]? = some o /\ p o) /\ ¬ Own μ H b
structure Post (F : Fz) (μ : Mu) (H : List Blk) (w : World) (F' : Fz) (μ' : Mu) (H' : List Blk) (w' : World) : Prop where
 mono : ∀ b o v, F b o = some v -> F' b o = some v
 back : ∀ b o v, F' b o = some v -> F b o = some v ∨ Own μ H b ∨ w.heap.size <= b
 size : w.heap.size <= w'.heap.size
 tape : w'.tape = w.tape
 os : w'.os = w.os
 output : w'.output = w.output
 keep : ∀ b, b < w.heap.size -> ¬ Own μ H b -> w'.heap[b]? = w.heap[b]? /\ ¬ Own μ' H' b
theorem CR.mono {F F' : Fz} (hF : ∀ b o v, F b o = some v -> F' b o = some v) {d : D} {v : Value} (h : CR F d v) : CR F' d v := by
 induction h with
 | v x ho => exact .v x ho
 | any x => exact .any x
 | agg cs vs hl _ ho ih => exact .agg cs vs hl ih ho
 | arr cs vs hl _ ho ih => exact .arr cs vs hl ih ho
 | tup cs vs hl _ ih => exact .tup cs vs hl ih
 | slE sz a cap => exact .slE sz a cap
 | z0 a => exact .z0 a
 | sl sz es b o cap val hc hz hf _ ih => exact .sl sz es b o cap val hc hz (fun i e r c h1 h2 => ⟨hF _ _ _ (hf i e r c h1 h2).1, (hf i e r c h1 h2).2⟩) ih
 | ip sz es b o i off val hz hf _ ih => exact .ip sz es b o i off val hz (fun i e r c h1 h2 => ⟨hF _ _ _ (hf i e r c h1 h2).1, (hf i e r c h1 h2).2⟩) ih
 | cb d b o off val hf _ ih => exact .cb d b o off val (fun r c h1 => ⟨hF _ _ _ (hf r c h1).1, (hf r c h1).2⟩) ih
 | fn f cs vs hl _ ih => exact .fn f cs vs hl ih
 | ifc t d v _ ih => exact .ifc t d v ih
theorem VR.mono {F F' : Fz} {μ μ' : Mu} (hF : ∀ b o v, F b o = some v -> F' b o = some v) (hμ : ∀ k x, μ k = some x -> μ' k = some x) {d : D} {v : Value} (h : VR F μ d v) : VR F' μ' d v := by
 induction h with
 | cl d v h => exact .cl d v (h.mono hF)
 | agg cs vs hl _ ho ih => exact .agg cs vs hl ih ho
 | arr cs vs hl _ ho ih => exact .arr cs vs hl ih ho
 | tup cs vs hl _ ih => exact .tup cs vs hl ih
 | fn f cs vs hl _ ih => exact .fn f cs vs hl ih
 | ifc t d v _ ih => exact .ifc t d v ih
 | b k off b m h => exact .b k off b m (hμ _ _ h)
 | bs k off b m h => exact .bs k off b m (hμ _ _ h)
 | p k sz i off b m h => exact .p k sz i off b m (hμ _ _ h)
 | o k sz n b m cap h hc hm => exact .o k sz n b m cap (hμ _ _ h) hc hm
 | oNil k sz a h => exact .oNil k sz a (hμ _ _ h)
 | yv k b m h => exact .yv k b m (hμ _ _ h)
 | mv k b m h => exact .mv k b m (hμ _ _ h)
theorem Z1l.mono {F F' : Fz} {μ μ' : Mu} (hF : ∀ b o v, F b o = some v -> F' b o = some v) (hμ : ∀ k x, μ k = some x -> μ' k = some x) {sz : Nat} {es : List D} {c : Array Value}
  (h : Z1l F μ sz es c) : Z1l F' μ' sz es c := fun i e he =>
 ⟨(h i e he).1, fun r d hd => let ⟨v, h1, h0, h2⟩ := (h i e he).2 r d hd; ⟨v, h1, h0, h2.mono hF hμ⟩⟩
theorem Post.refl (F : Fz) (μ : Mu) (H : List Blk) (w : World) : Post F μ H w F μ H w :=
 ⟨fun _ _ _ h => h, fun _ _ _ h => .inl h, Nat.le_refl _, rfl, rfl, rfl, fun _ _ h => ⟨rfl, h⟩⟩
theorem Post.trans {F F' F'' : Fz} {μ μ' μ'' : Mu} {H H' H'' : List Blk} {w w' w'' : World} (h : Post F μ H w F' μ' H' w') (h' : Post F' μ' H' w' F'' μ'' H'' w'') : Post F μ H w F'' μ'' H'' w'' where
 mono := fun b o v e => h'.mono _ _ _ (h.mono _ _ _ e)
 back := fun b o v e => by
  rcases h'.back b o v e with e | e | e
  ·exact h.back b o v e
  ·by_cases hb : b < w.heap.size
   ·by_cases ho : Own μ H b
    ·exact .inr (.inl ho)
    ·exact absurd e (h.keep b hb ho).2
   ·exact .inr (.inr (by omega))
  ·exact .inr (.inr (Nat.le_trans h.size e))
 size := Nat.le_trans h.size h'.size
 tape := h'.tape.trans h.tape
 os := h'.os.trans h.os
 output := h'.output.trans h.output
 keep := fun b hb ho => by
  obtain ⟨e1, o1⟩ := h.keep b hb ho;obtain ⟨e2, o2⟩ := h'.keep b (Nat.lt_of_lt_of_le hb h.size) o1;exact ⟨e2.trans e1, o2⟩
inductive AD where
 | mk (k : Nat)
 | fn (f : FuncId) (caps as : List D)
 | lit (d : Deferred)
def ADR (F : Fz) (μ : Mu) (H : List Blk) : List AD -> List Deferred -> Prop
 | [], ds => ds = []
 | .mk k :: r, ds => ∃ (cs : List Nat) (ds' : List Deferred), ds = (cs.map fun c => { target := .collected c, args := #[] }) ++ ds' /\ cs.Nodup /\ Z13 H k = some .mk /\ μ k = some none /\ (∀ c ∈ cs, μ.inn k c) /\ ADR F μ H r ds'
 | .fn f caps as :: r, ds => ∃ (cv av : Array Value) (ds' : List Deferred), ds = { target := .fn (.func f) cv, args := av } :: ds' /\ (caps.length = cv.size /\ ∀ (i : Nat) (c : D) (v : Value), caps[i]? = some c -> cv[i]? = some v -> VR F μ c v) /\
   (as.length = av.size /\ ∀ (i : Nat) (c : D) (v : Value), as[i]? = some c -> av[i]? = some v -> VR F μ c v) /\ ADR F μ H r ds'
 | .lit d :: r, ds => ∃ ds' : List Deferred, ds = d :: ds' /\ ADR F μ H r ds'
theorem ADR.mono {F F' : Fz} {μ μ' : Mu} {H H' : List Blk} (hF : ∀ b o v, F b o = some v -> F' b o = some v) (hμ : ∀ k x, μ k = some x -> μ' k = some x) (hk : ∀ k, Z13 H k = some .mk -> Z13 H' k = some .mk /\ ∀ c, μ.inn k c -> μ'.inn k c) :
  ∀ {l : List AD} {ds : List Deferred}, ADR F μ H l ds -> ADR F' μ' H' l ds
 | [], _, h => h
 | .mk k :: r, _, ⟨cs, ds', h1, h2, h3, hn, h4, h5⟩ => ⟨cs, ds', h1, h2, (hk k h3).1, hμ _ _ hn, fun c hc => (hk k h3).2 c (h4 c hc), ADR.mono hF hμ hk h5⟩
 | .fn f caps as :: r, _, ⟨cv, av, ds', h1, h2, h3, h4⟩ => ⟨cv, av, ds', h1, ⟨h2.1, fun i c v a b => (h2.2 i c v a b).mono hF hμ⟩, ⟨h3.1, fun i c v a b => (h3.2 i c v a b).mono hF hμ⟩, ADR.mono hF hμ hk h4⟩
 | .lit d :: r, _, ⟨ds', h1, h2⟩ => ⟨ds', h1, ADR.mono hF hμ hk h2⟩
structure St where
 env : List (Nat × D)
 H : List Blk
 nt : Nat
 dfs : List AD
structure ER (F : Fz) (μ : Mu) (s : St) (a : Act) : Prop where
 env : ∀ t d, Z1c s.env t = some d -> ∃ v, a.tmps[t]? = some v /\ VR F μ d v
 nt : a.tmps.size = s.nt
 dfs : ADR F μ s.H s.dfs a.defers
structure RL (m : Nat) (F : Fz) (μ : Mu) (s : St) (a : Act) (w : World) : Prop where
 hr : HR F μ s.H w
 er : ER F μ s a
 len : m <= s.H.length
def Mks (μ : Mu) (H : List Blk) (μ' : Mu) (H' : List Blk) : Prop := ∀ k, Z13 H k = some .mk -> Z13 H' k = some .mk /\ ∀ c, μ.inn k c -> μ'.inn k c
theorem Mks.refl (μ : Mu) (H : List Blk) : Mks μ H μ H := fun _ h => ⟨h, fun _ h => h⟩
theorem Mks.trans {μ μ' μ'' : Mu} {H H' H'' : List Blk} (h : Mks μ H μ' H') (h' : Mks μ' H' μ'' H'') : Mks μ H μ'' H'' := fun k hk => ⟨(h' k (h k hk).1).1, fun c hc => (h' k (h k hk).1).2 c ((h k hk).2 c hc)⟩
structure Kp (m : Nat) (μ : Mu) (H : List Blk) (μ' : Mu) (H' : List Blk) : Prop where
 same : ∀ i, i < m -> μ' i = μ i
 mks : ∀ i, i < m -> Z13 H i = some .mk -> Z13 H' i = some .mk /\ ∀ c, μ.inn i c -> μ'.inn i c
theorem Kp.refl (m : Nat) (μ : Mu) (H : List Blk) : Kp m μ H μ H := ⟨fun _ _ => rfl, fun _ _ h => ⟨h, fun _ h => h⟩⟩
theorem Kp.trans {m : Nat} {μ μ' μ'' : Mu} {H H' H'' : List Blk} (h : Kp m μ H μ' H') (h' : Kp m μ' H' μ'' H'') : Kp m μ H μ'' H'' :=
 ⟨fun i hi => (h'.same i hi).trans (h.same i hi), fun i hi hk => ⟨(h'.mks i hi (h.mks i hi hk).1).1, fun c hc => (h'.mks i hi (h.mks i hi hk).1).2 c ((h.mks i hi hk).2 c hc)⟩⟩
theorem Kp.ob {m : Nat} {μ : Mu} {H H' : List Blk} (h : ∀ i, Z13 H i = some .mk -> Z13 H' i = some .mk) : Kp m μ H μ H' := ⟨fun _ _ => rfl, fun i _ hk => ⟨h i hk, fun _ h => h⟩⟩
end Go.Abs

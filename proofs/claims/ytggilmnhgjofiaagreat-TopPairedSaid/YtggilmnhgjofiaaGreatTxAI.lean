/- Part TxAI of the proofs about the benches of the accordion maker: see the last text of the claim for what is proved. -/
import Derived.Test.YtggilmnhgjofiaaGreatTxAH
set_option linter.unusedVariables false
set_option linter.unusedSimpArgs false
set_option linter.unnecessarySimpa false
set_option linter.constructorNameAsVariable false

namespace Go.Abs
open Go
section
variable {P : Program} {T : TT} {F : Fz} {μ : Mu} {w : World} {K : D -> Prop}
theorem Zjs {α β : Type} (g : α -> Option β) : ∀ (l : List α) (r : List β), l.mapM g = some r -> ∀ i : Nat, r[i]? = (l[i]?).bind g
 | [], r, h, i => by simp at h; subst h; simp
 | x :: l, r, h, i => by
  simp only [List.mapM_cons, Option.bind_eq_bind, Option.pure_def] at h
  cases hx : g x with
  | none => simp [hx] at h
  | some y =>
   cases hr : l.mapM g with
   | none => simp [hx, hr] at h
   | some r' =>
    simp [hx, hr] at h;subst h
    cases i with
    | zero => simp [hx]
    | succ i => simpa using Zjs g l r' hr i
theorem Zjt {α β : Type} (g : α -> Option β) : ∀ (l : List α) (r : List β), l.mapM g = some r -> r.length = l.length
 | [], r, h => by simp at h; subst h; rfl
 | x :: l, r, h => by
  simp only [List.mapM_cons, Option.bind_eq_bind, Option.pure_def] at h
  cases hx : g x with
  | none => simp [hx] at h
  | some y =>
   cases hr : l.mapM g with
   | none => simp [hx, hr] at h
   | some r' =>
    simp [hx, hr] at h;subst h;simp [Zjt g l r' hr]
theorem Zm8 (hT : TOK P T) {t : TypeId} {e : TE} (he : Z1d T t = some e) {zs : List D} (hz : e.zero = .agg zs) {i : TypeInfo} {z : Value} (hi : P.info? t = some i) (hz' : i.zero = some z) : CellsA F μ zs z.cells /\ z = .agg z.cells := by
 obtain ⟨i', d, z', h1, h2, h3, h4, h5, h6, h7, h8, h9, -⟩ := hT.at he;rw [hi] at h1; cases h1;rw [hz'] at h3; cases h3;rw [hz] at h7;have hv : VR F μ (.agg zs) z := by rw [h7]; exact .cl _ _ (CR.ofV z)
 obtain ⟨vs, rfl, hl, hr, ho⟩ := hv.agg_inv;exact ⟨⟨hl, hr, ho⟩, rfl⟩
theorem Zm9 (hT : TOK P T) {t : TypeId} {s : St} {a : Act} (h : ER F μ s a) {parts : Array (Nat × Operand)} (hk : Zm1 T t (parts.toList.map fun (i, x) => (i, evo s.env x)) K) :
  ∃ d v, (Instr.build t (parts.map fun (i, x) => (i, a.eval x))).run P w = .ok v w /\ VR F μ d v /\ K d := by
 have fin : ∀ {cs : List D} {vs : Array Value}, P.built t (parts.toList.map fun (i, x) => (i, a.eval x)) = some vs -> CellsA F μ cs vs -> K (.agg cs) -> ∃ d v, (Instr.build t (parts.map fun (i, x) => (i, a.eval x))).run P w = .ok v w /\ VR F μ d v /\ K d :=
  fun {cs vs} hb hc hk => ⟨.agg cs, .agg vs, run_build w t _ vs (by simpa using hb), .agg _ _ hc.len hc.rel hc.one, hk⟩
 unfold Zm1 at hk
 split at hk
 ·rename_i e he
  obtain ⟨i, d, z, h1, h2, h3, h4, h5, h6, h7, h8, h9, h10, h11, h12, h13, h14, -⟩ := hT.at he
  split at hk
  ·rename_i zs hzs
   obtain ⟨hzc, hze⟩ := Zm8 (F := F) (μ := μ) hT he hzs h1 h3
   split at hk
   ·rename_i hkc
    split at hk
    ·exact hk.elim
    ·rename_i hok
     split at hk
     ·rename_i cs hf
      rw [hkc] at h13;obtain ⟨fs, rfl⟩ : ∃ fs, d = .struct fs := by cases d <;> simp [Zaw] at h13; exact ⟨_, rfl⟩
      rw [hok] at h14;obtain ⟨places, hpl⟩ := Option.isSome_iff_exists.1 h14.symm;have hpp : ∀ j p, Zib e j = some p -> (places.toArray[·]?) j = some p := fun j p hp => by
       unfold Zib at hp
       split at hp
       ·rename_i off n ag hfd
        cases hp
        obtain ⟨fs', fl, g1, g2, rfl, rfl, -⟩ := Zlv hT he hfd;rw [h2] at g1; cases g1;show places.toArray[j]? = _;have this := Zjs _ _ _ hpl j;have e0 : fs.toList[j]? = some fl := by rw [Array.getElem?_toList]; exact g2
        rw [e0] at this;have hlt : j < places.length := by
         have hj := (Array.getElem?_eq_some_iff.1 g2).1;have hlen := Zjt _ _ _ hpl;simp at hlen; omega
        have hto : places.toArray[j]? = places[j]? := by simp
        rw [hto]
        cases hq : P.info? fl.type with
        | none => rw [List.getElem?_eq_getElem hlt] at this; simp [hq] at this
        | some q => rw [this]; simp [hq, Program.cellsOf]
       ·cases hp
      obtain ⟨vs', g1, g2⟩ := Z99 hpp h parts.toList zs z.cells cs hzc hf;refine fin ?_ g2 hk;unfold Program.built;rw [h1, h2];simp only [h3, hpl];exact g1
     ·exact hk.elim
   ·rename_i hkc
    split at hk
    ·rename_i n el hel
     split at hk
     ·rename_i e2 he2
      split at hk
      ·rename_i cs hf
       obtain ⟨i2, d2, z2, k1, k2, k3, k4, -⟩ := hT.at he2;obtain ⟨vs', g1, g2⟩ := Z99 (place' := fun i => some (i * e2.size, e2.size)) (fun _ _ hp => hp) h parts.toList zs z.cells cs hzc hf;refine fin ?_ g2 hk;unfold Program.built;rw [h1, Zev hT he hel];simp only [h3, k1];rw [<- k4];exact g1
      ·exact hk.elim
     ·exact hk.elim
    ·exact hk.elim
   ·exact hk.elim
  ·exact hk.elim
 ·exact hk.elim
theorem Z9a {s : St} {a : Act} (h : ER F μ s a) {x : Operand} {n : Int} (hx : Go.Abs.intOf (evo s.env x) = some n) : ∃ k, a.eval x = .int k n := by
 cases hq : evo s.env x with
 | none => simp [hq, Go.Abs.intOf] at hx
 | some d =>
  rw [hq] at hx;unfold Go.Abs.intOf at hx
  split at hx
  ·rename_i k m h0
   cases h0; cases hx
   exact ⟨k, (h.evo hq).v_inv⟩
  ·cases hx
def bnd (s : St) (o : Option Operand) (dflt l : Int) : Prop := match o with | none => l = dflt | some x => Go.Abs.intOf (evo s.env x) = some l
theorem Z8f {s : St} {a : Act} (h : ER F μ s a) (isS : Bool) (len cap : Nat) (lo hi : Option Operand) (l hh : Int)
  (hl : bnd s lo 0 l) (hhi : bnd s hi len hh)
  (h0 : 0 <= l) (h1 : l <= hh) (h2 : hh <= cap) : (Instr.sliceBounds isS len cap (lo.map a.eval) (hi.map a.eval) none).run P w = .ok (l.toNat, hh.toNat, cap) w := by
 unfold Instr.sliceBounds;have e1 : hh.toNat = hh := Int.toNat_of_nonneg (by omega)
 cases lo with
 | none =>
  obtain rfl : l = 0 := hl
  cases hi with
  | none =>
   obtain rfl : hh = len := hhi;simp
  | some y =>
   obtain ⟨k2, e2⟩ := Z9a h hhi;simp [Instr.sliceBound, asIntOf, e2, show 0 <= hh by omega, h2]
 | some x =>
  obtain ⟨k1, e3⟩ := Z9a h hl
  cases hi with
  | none =>
   obtain rfl : hh = len := hhi;simp [Instr.sliceBound, asIntOf, e3, h0, h1]
  | some y =>
   obtain ⟨k2, e2⟩ := Z9a h hhi;simp [Instr.sliceBound, asIntOf, e2, e3, show 0 <= hh by omega, h2, h0, h1, e1]
theorem Zma (hT : TOK P T) {t : TypeId} {s : St} {a : Act} (h : ER F μ s a) {x : D} {vx : Value} (hx : VR F μ x vx) {lo hi : Option Operand} (hk : Zjp ar T t (lo.map (evo s.env)) (hi.map (evo s.env)) K x) :
  ∃ d v, (Instr.sliceAt t vx (lo.map a.eval) (hi.map a.eval) none).run P w = .ok v w /\ VR F μ d v /\ K d := by
 have slc : ∀ {sz el : Nat} {es : List D} {e e2 : TE} {l hh : Int}, VR F μ (.sl sz es) vx -> Z1d T t = some e -> e.el = some (none, el) -> Z1d T el = some e2 -> sz = e2.size ->
   bnd s lo 0 l -> bnd s hi es.length hh ->
   0 <= l -> l <= hh -> hh <= es.length -> K (.sl sz ((es.take hh.toNat).drop l.toNat)) -> ∃ d v, (Instr.sliceAt t vx (lo.map a.eval) (hi.map a.eval) none).run P w = .ok v w /\ VR F μ d v /\ K d :=
  fun {sz el es e e2 l hh} hx he hel he2 hsz hl hhi h0 h1 h2 hk => by
  have hu := Z61 hT he hel;have hs := Z6i (w := w) hT he2;have hlen : ((es.take hh.toNat).drop l.toNat).length = hh.toNat - l.toNat := by simp; omega
  cases hx with
  | cl _ _ hc =>
   cases hc with
   | slE _ ad cap =>
    have hb := Z8f (P := P) (w := w) h true 0 cap lo hi l hh hl (by simpa using hhi) h0 h1 (by simp at h2; omega);refine ⟨_, .slice (if cap = l.toNat then ad else ad.map (·.add (l.toNat * e2.size))) (hh.toNat - l.toNat) (cap - l.toNat), ?_, ?_, hk⟩
    ·unfold Instr.sliceAt;rw [Sem.run_bind, run_underlying hu w];unfold Instr.slice;simp only [Result.andThen_ok, Sem.run_bind, run_underlying hu w, hb, hs];rfl
    ·simp only [List.take_nil, List.drop_nil];have : hh.toNat - l.toNat = 0 := by simp at h2; omega
     rw [this]; exact .cl _ _ (.slE _ _ _)
   | sl _ _ b o cap val hc hz hf hv =>
    have hb := Z8f (P := P) (w := w) h true es.length cap lo hi l hh hl hhi h0 h1 (by omega);refine ⟨_, .slice (if cap = l.toNat then some ⟨b, o, none⟩ else some ((⟨b, o, none⟩ : Addr).add (l.toNat * e2.size))) (hh.toNat - l.toNat) (cap - l.toNat), ?_, ?_, hk⟩
    ·unfold Instr.sliceAt;rw [Sem.run_bind, run_underlying hu w];unfold Instr.slice;simp only [Result.andThen_ok, Sem.run_bind, run_underlying hu w, hb, hs];rfl
    ·rw [<- hlen]
     by_cases hz0 : hh.toNat - l.toNat = 0
     ·have : (es.take hh.toNat).drop l.toNat = [] := List.eq_nil_of_length_eq_zero (by rw [hlen, hz0]);rw [this]; exact .cl _ _ (.slE _ _ _)
     ·rw [if_neg (by omega), add_lit];have gt : ∀ i x, ((es.take hh.toNat).drop l.toNat)[i]? = some x -> es[l.toNat + i]? = some x := fun i x hi => by
       rw [List.getElem?_drop, List.getElem?_take] at hi
       split at hi
       ·exact hi
       ·cases hi
      refine .cl _ _ (.sl sz _ b (o + l.toNat * e2.size) (cap - l.toNat) (fun i r => val (l.toNat + i) r) (by rw [hlen]; omega) (fun i e hi => hz _ _ (gt i e hi)) (fun i e r c hi hr => ?_) (fun i e r c hi hr => hv _ _ _ _ (gt i e hi) hr));have := hf _ _ _ _ (gt i e hi) hr;have e0 : o + l.toNat * e2.size + i * sz + r = o + (l.toNat + i) * sz + r := by rw [hsz, Nat.add_mul]; omega
      rw [e0]; exact this
 have str : ∀ {b : ByteArray} {e : TE} {l hh : Int}, Z1d T t = some e -> e.kc = 2 -> vx = .string b -> bnd s lo 0 l -> bnd s hi b.size hh ->
   0 <= l -> l <= hh -> hh <= b.size -> K (.v (.string (b.extract l.toNat hh.toNat))) -> ∃ d v, (Instr.sliceAt t vx (lo.map a.eval) (hi.map a.eval) none).run P w = .ok v w /\ VR F μ d v /\ K d :=
  fun {b e l hh} he hkc hvx hl hhi h0 h1 h2 hk => by
  subst hvx;obtain ⟨d, hd, hkc', -⟩ := Z1e hT he;rw [hkc] at hkc';obtain rfl : d = .string := by cases d <;> simp [Zaw] at hkc' <;> rfl
  have hb := Z8f (P := P) (w := w) h false b.size b.size lo hi l hh hl hhi h0 h1 (by omega);refine ⟨_, .string (b.extract l.toNat hh.toNat), ?_, Z3d rfl, hk⟩;unfold Instr.sliceAt;rw [Sem.run_bind, run_underlying hd w];unfold Instr.slice;simp only [Result.andThen_ok, Sem.run_bind, run_underlying hd w];simp [hb]
 unfold Zjp at hk
 split at hk
 ·rename_i sz es
  split at hk
  ·rename_i e he
   split at hk
   ·rename_i el hel
    split at hk
    ·rename_i e2 he2
     cases hsz : Nat.beq sz e2.size with
     | false => rw [hsz] at hk; cases lo <;> cases hi <;> exact hk.elim
     | true =>
      rw [hsz] at hk;have hsz := Nat.eq_of_beq_eq_true hsz
      cases lo with
      | none =>
       cases hi with
       | none => exact slc hx he hel he2 hsz (l := 0) (hh := es.length) rfl rfl (by omega) (by omega) (by omega) (by simpa using hk)
       | some y =>
        simp only [Option.map_none, Option.map_some] at hk
        split at hk
        ·rename_i l hl
         obtain ⟨⟨h0, h1, h2⟩, hk⟩ := hk;exact slc hx he hel he2 hsz (l := 0) (hh := l) rfl hl (by omega) h1 h2 hk
        ·exact hk.elim
      | some x =>
       cases hi with
       | none =>
        simp only [Option.map_none, Option.map_some] at hk
        split at hk
        ·rename_i l hl
         obtain ⟨⟨h0, h1, h2⟩, hk⟩ := hk;exact slc hx he hel he2 hsz (l := l) (hh := es.length) hl rfl h0 h1 h2 hk
        ·exact hk.elim
       | some y =>
        simp only [Option.map_some] at hk
        split at hk
        ·rename_i l hh hl hr
         obtain ⟨⟨h0, h1, h2⟩, hk⟩ := hk;exact slc hx he hel he2 hsz (l := l) (hh := hh) hl hr h0 h1 h2 hk
        ·exact hk.elim
    ·exact hk.elim
   ·exact hk.elim
  ·exact hk.elim
 ·rename_i b
  have hvx := hx.v_inv
  split at hk
  ·rename_i e he
   by_cases hkc : e.kc = 2
   ·rw [hkc] at hk
    cases lo with
    | none =>
     cases hi with
     | none =>
      refine str he hkc hvx (l := 0) (hh := b.size) rfl rfl (by omega) (by omega) (by omega) ?_;have : b.extract (Int.toNat 0) (Int.toNat b.size) = b := by simp
      rw [this]; exact hk
     | some y =>
      simp only [Option.map_none, Option.map_some] at hk
      split at hk
      ·rename_i l hl
       obtain ⟨⟨h0, h1, h2⟩, hk⟩ := hk;exact str he hkc hvx (l := 0) (hh := l) rfl hl (by omega) h1 h2 hk
      ·exact hk.elim
    | some x =>
     cases hi with
     | none =>
      simp only [Option.map_none, Option.map_some] at hk
      split at hk
      ·rename_i l hl
       obtain ⟨⟨h0, h1, h2⟩, hk⟩ := hk;exact str he hkc hvx (l := l) (hh := b.size) hl rfl h0 h1 h2 hk
      ·exact hk.elim
     | some y =>
      simp only [Option.map_some] at hk
      split at hk
      ·rename_i l hh hl hr
       obtain ⟨⟨h0, h1, h2⟩, hk⟩ := hk;exact str he hkc hvx (l := l) (hh := hh) hl hr h0 h1 h2 hk
      ·exact hk.elim
   ·exfalso
    revert hk hkc
    generalize e.kc = n
    intro hk hkc
    cases lo <;> cases hi <;> simp only [Option.map_none, Option.map_some] at hk <;> (split at hk <;> first | exact hkc rfl | exact hk)
  ·exact hk.elim
 ·rename_i b n cap
  have hvx := hx.v_inv;have slv : ∀ {el : Nat} {e e2 : TE} {l hh : Int}, Z1d T t = some e -> e.el = some (none, el) -> Z1d T el = some e2 -> bnd s lo 0 l -> bnd s hi n hh -> 0 <= l -> l <= hh -> hh <= cap ->
    K (.v (.slice (if cap = l.toNat then some ⟨b, 0, none⟩ else some ⟨b, l.toNat * e2.size, none⟩) (hh.toNat - l.toNat) (cap - l.toNat))) -> ∃ d v, (Instr.sliceAt t vx (lo.map a.eval) (hi.map a.eval) none).run P w = .ok v w /\ VR F μ d v /\ K d :=
   fun {el e e2 l hh} he hel he2 hl hhi h0 h1 h2 hk => by
   have hu := Z61 hT he hel;have hs := Z6i (w := w) hT he2;have hb := Z8f (P := P) (w := w) h true n cap lo hi l hh hl hhi h0 h1 h2;refine ⟨_, .slice (if cap = l.toNat then some ⟨b, 0, none⟩ else some ⟨b, l.toNat * e2.size, none⟩) (hh.toNat - l.toNat) (cap - l.toNat), ?_, Z3d (by split <;> rfl), hk⟩;rw [hvx];unfold Instr.sliceAt;rw [Sem.run_bind, run_underlying hu w];unfold Instr.slice;simp only [Result.andThen_ok, Sem.run_bind, run_underlying hu w, hb, hs];have e0 : (⟨b, 0, none⟩ : Addr).add (l.toNat * e2.size) = ⟨b, l.toNat * e2.size, none⟩ := by rw [add_lit]; simp
   simp only [Option.map_some, e0];rfl
  split at hk
  ·rename_i e he
   split at hk
   ·rename_i el hel
    split at hk
    ·rename_i e2 he2
     cases lo with
     | none =>
      cases hi with
      | none => exact hk.elim
      | some y =>
       simp only [Option.map_none, Option.map_some] at hk
       split at hk
       ·rename_i hh hr
        obtain ⟨⟨h0, h1⟩, hk⟩ := hk;refine slv he hel he2 (l := 0) (hh := hh) rfl hr (by omega) h0 h1 ?_;have e3 : (if cap = Int.toNat 0 then some (⟨b, 0, none⟩ : Addr) else some ⟨b, Int.toNat 0 * e2.size, none⟩) = some ⟨b, 0, none⟩ := by simp
        rw [e3]; exact hk
       ·exact hk.elim
     | some x =>
      cases hi with
      | none =>
       simp only [Option.map_none, Option.map_some] at hk
       split at hk
       ·rename_i l hl
        obtain ⟨⟨h0, h1, h2⟩, hk⟩ := hk;exact slv he hel he2 (l := l) (hh := n) hl rfl h0 h1 (by omega) hk
       ·exact hk.elim
      | some y => exact hk.elim
    ·exact hk.elim
   ·exact hk.elim
  ·exact hk.elim
 ·exact hk.elim
theorem Zju {d : D} {v : Value} (h : VR F μ d v) (hs : Zr0 d = true) : ∃ a n c, v = .slice a n c := by
 cases d <;> simp [Zr0] at hs
 case sl => obtain ⟨a, c, e, -⟩ := h.sl_inv; exact ⟨a, _, c, e⟩
 case o => obtain ⟨a, c, e, -⟩ := h.o_inv; exact ⟨a, _, c, e⟩
 case z0 => cases h with | cl _ _ h => cases h with | z0 a => exact ⟨a, 0, 0, rfl⟩
 case v x =>
  split at hs
  all_goals first
   | cases hs; done
   | (rename_i e; first | cases e | skip)
  all_goals first
   | (obtain rfl := h.v_inv; exact ⟨_, _, _, rfl⟩)
theorem Zey {d : Option D} {n : Int} (h : intOf d = some n) : ∃ k, d = some (.v (.int k n)) := by
 unfold intOf at h; split at h
 ·cases h; exact ⟨_, rfl⟩
 ·cases h
theorem Zjv (hT : TOK P T) {t : TypeId} {s : St} {a : Act} (h : ER F μ s a) {x : D} {vx : Value} (hx : VR F μ x vx) {lo hi : Option Operand} {mx : Operand} (hk : Zeu T t lo (hi.map (evo s.env)) (evo s.env mx) K x) :
  ∃ d v, (Instr.sliceAt t vx (lo.map a.eval) (hi.map a.eval) (some (a.eval mx))).run P w = .ok v w /\ VR F μ d v /\ K d := by
 unfold Zeu at hk
 split at hk
 ·rename_i e he hs
  split at hk
  ·rename_i el hel
   split at hk
   ·rename_i e2 hh he2 hhi
    split at hk
    ·rename_i i1 i2
     obtain ⟨ad, n, c, rfl⟩ := Zju hx hs
     cases hi with
     | none => cases hhi
     | some ho =>
      simp only [Option.map_some, Option.some.injEq] at hhi;obtain ⟨k1, e1⟩ := Zey i1;obtain ⟨k2, e3⟩ := Zey i2;have v1 := (h.evo (hhi.trans e1)).v_inv;have v2 := (h.evo e3).v_inv;have hu := Z61 hT he hel;have hsz := Z6i (w := w) hT he2;refine ⟨.z0, .slice ad 0 0, ?_, .cl _ _ (.z0 _), hk⟩;unfold Instr.sliceAt;rw [Sem.run_bind, run_underlying hu w];unfold Instr.slice;simp only [Result.andThen_ok, Sem.run_bind, run_underlying hu w];simp [Instr.sliceBounds, Instr.sliceBound, asIntOf, v1, v2, hsz]
    ·exact hk.elim
   ·exact hk.elim
  ·exact hk.elim
 ·exact hk.elim
theorem Z7d (hT : TOK P T) {t : TypeId} {kn : Nat} {ee : TE} (h : Zc3 T t = some (kn, ee)) : ∃ kt et, P.underlying t = some (.map kt et) /\ Z3e P 6 kt = some (Nat.max 1 kn) /\ Z3j P kt = (kn != 0) /\ Z1d T et = some ee := by
 unfold Zc3 at h
 split at h
 ·rename_i e he
  split at h
  ·rename_i kt et hmp
   split at h
   ·rename_i ek ee' hek hee
    obtain ⟨i, d, z, h1, h2, h3, h4, h5, h6, h7, h8, h9, h10, h11, h12, h13, h14, h15, h16⟩ := hT.at he;have hd : P.underlying t = some (.map kt et) := by
     rw [h2];rw [hmp] at h15
     cases d <;> simp at h15
     obtain ⟨rfl, rfl⟩ := h15; rfl
    split at h
    ·rename_i n hf ha
     cases h
     obtain ⟨-, f2, f3⟩ := Zef hT hek hf;exact ⟨kt, et, hd, by rw [f2, show Nat.max 1 (_ + 1) = _ + 1 from Nat.max_eq_right (by omega)], by rw [<- f3, ha]; rfl, hee⟩
    ·rename_i hf ha
     cases h
     obtain ⟨-, f2, f3⟩ := Zef hT hek hf;exact ⟨kt, et, hd, by rw [f2]; rfl, by rw [<- f3, ha]; rfl, hee⟩
    ·cases h
   ·cases h
  ·cases h
 ·cases h
theorem Zjw {kn : Nat} {d : D} {l : List Int} {v : Value} (h : Zu7 kn d l) (hv : VR F μ d v) : v = Z1k (kn != 0) l /\ l.length = Nat.max 1 kn := by
 unfold Zu7 at h
 split at h
 ·subst h;rw [hv.v_inv];exact ⟨by simp [Z1k], rfl⟩
 ·rename_i n l
  obtain ⟨rfl, hl⟩ := h;rw [Z97 hv];exact ⟨by simp [Z1k], by rw [hl]; simp⟩
 ·exact h.elim
theorem Zr2 {l : List (List Int × D)} {k : List Int} : (l.map (·.1)).findIdx? (· == k) = l.findIdx? (·.1 == k) := by
 induction l with
 | nil => rfl
 | cons x l ih => simp only [List.map_cons, List.findIdx?_cons, ih]
theorem Z1n7 : ∀ {l : List (List Int × D)} {k : List Int} {j : Nat}, l.findIdx? (·.1 == k) = some j -> ∃ x, l[j]? = some x /\ l.find? (·.1 == k) = some x /\ x.1 = k
 | [], k, j, h => by simp at h
 | x :: l, k, j, h => by
  rw [List.findIdx?_cons] at h
  by_cases e : (x.1 == k) = true
  ·rw [if_pos e] at h; cases h;exact ⟨x, rfl, by simp [List.find?_cons, e], by simpa using e⟩
  ·rw [if_neg e] at h
   cases hf : l.findIdx? (·.1 == k) with
   | none => rw [hf] at h; cases h
   | some i =>
    rw [hf] at h;simp at h;subst h;obtain ⟨y, h1, h2, h3⟩ := Z1n7 hf;exact ⟨y, by simpa using h1, by simp [List.find?_cons, e]; exact h2, h3⟩
theorem Zp8 {l : List (List Int × D)} {k : List Int} (h : l.findIdx? (·.1 == k) = none) : l.find? (·.1 == k) = none := by
 induction l with
 | nil => rfl
 | cons x l ih =>
  rw [List.findIdx?_cons] at h
  by_cases e : (x.1 == k) = true
  ·rw [if_pos e] at h; cases h
  ·rw [if_neg e] at h;rw [List.find?_cons];simp only [e]
   apply ih
   cases hf : l.findIdx? (·.1 == k) with
   | none => rfl
   | some i => rw [hf] at h; cases h
theorem Zr3 (hT : TOK P T) {t : TypeId} {e : TE} (he : Z1d T t = some e) : ∃ z, (zeroValue t).run P w = .ok z w /\ VR F μ e.zero z := by
 obtain ⟨i, d, z, h1, h2, h3, h4, h5, h6, h7, -⟩ := hT.at he;exact ⟨z, by simp [zeroValue, typeInfo, h1, h3], by rw [h7]; exact .cl _ _ (CR.ofV z)⟩
theorem Zgm {ok : Bool} {d : D} {v : Value} {b : Bool} (hv : VR F μ d v) (h : okA ok K d b) : ∃ x, VR F μ x (if ok then .tuple #[v, .bool b] else v) /\ K x := by
 cases ok with
 | false => exact ⟨d, hv, h⟩
 | true =>
  refine ⟨_, .tup _ _ rfl fun i c u hc hu => ?_, h⟩
  match i, hc, hu with
  | 0, hc, hu => simp at hc hu; subst hc; subst hu; exact hv
  | 1, hc, hu => simp at hc hu; subst hc; subst hu; exact .cl _ _ (.v _ rfl)
  | i + 2, hc, hu => simp at hc
structure EntsR (F : Fz) (kn : Nat) (es : Array MapEntry) (ents : List (List Int × D)) : Prop where
 size : es.size = ents.length
 at_ : ∀ (i : Nat) (e : MapEntry) (x : List Int × D), es[i]? = some e -> ents[i]? = some x -> e.key = Z1k (kn != 0) x.1 /\ x.1.length = Nat.max 1 kn /\ CR F x.2 e.val
theorem Zb5 (hT : TOK P T) {t : TypeId} {kn : Nat} {kt : TypeId} (h2 : Z3e P 6 kt = some (Nat.max 1 kn)) (h3 : Z3j P kt = (kn != 0)) {es : Array MapEntry} {ents : List (List Int × D)} (hr : EntsR F kn es ents) {l : List Int} (hl : l.length = Nat.max 1 kn) :
  (Instr.findKey kt (Z1k (kn != 0) l) es.toList).run P w = .ok ((ents.findIdx? (·.1 == l)).bind fun j => (es[j]?).map fun e => (j, e.val)) w := by
 have := Zd2 (P := P) (m := 6) (by omega) h2 l hl w es.toList (ents.map (·.1)) (by simpa using hr.size) (fun i e k he hk => by
  rw [List.getElem?_map, Option.map_eq_some_iff] at hk
  obtain ⟨x, hx, rfl⟩ := hk
  obtain ⟨a, b, -⟩ := hr.at_ i e x (by simpa using he) hx
  exact ⟨by rw [h3]; exact a, b⟩)
 rw [h3, Zr2] at this;rw [this];simp
theorem Zp9 (hT : TOK P T) {H : List Blk} (hr : HR F μ H w) {t : TypeId} {ok : Bool} {m key : D} {vm vk : Value} (hm : VR F μ m vm) (hk : VR F μ key vk) (h : Zea ar T H t ok K key m) :
  ∃ d v, (Instr.lookup t vm vk ok).run P w = .ok v w /\ VR F μ d v /\ K d := by
 have main : ∀ {kn : Nat} {ee : TE} {es : Array MapEntry} {ents : List (List Int × D)} {l : List Int} {v0 : Option Nat}, Zc3 T t = some (kn, ee) -> Zu7 kn key l -> EntsR F kn es ents ->
   (vm = .map none /\ es = #[] ∨ ∃ b c, vm = .map (some b) /\ w.heap[b]? = some (.map es c)) -> (∃ d, ar.mget ents l ee.zero = some d /\ okA ok K d (ar.mhas ents l)) ->
   ∃ d v, (Instr.lookup t vm vk ok).run P w = .ok v w /\ VR F μ d v /\ K d := fun {kn ee es ents l v0} hmt hkd her hvm ⟨d, hd, hok⟩ => by
  obtain ⟨kt, et, u1, u2, u3, u4⟩ := Z7d hT hmt;obtain ⟨rfl, hl⟩ := Zjw hkd hk;have hfind := Zb5 (P := P) (w := w) (F := F) (T := T) (t := t) hT u2 u3 her hl;have hchk : ∀ em, (Instr.checkKey em 10000 kt (Z1k (kn != 0) l)).run P w = .ok () w := fun em => by
   have := Z5d (P := P) em 6 9994 kt _ u2 l w hl;rw [u3] at this; exact this
  obtain ⟨z, hz, hzv⟩ := Zr3 (P := P) (F := F) (μ := μ) (w := w) hT u4;have hget : ar.mget ents l ee.zero = some (((ents.find? (·.1 == l)).map (·.2)).getD ee.zero) := rfl;rw [hget] at hd
  cases hd
  have fin : ∀ {r : Option (Nat × Value)} {val : Value} {b : Bool}, ((ents.findIdx? (·.1 == l)).bind fun j => (es[j]?).map fun e => (j, e.val)) = r -> (match r with | some (_, v) => val = v /\ b = true | none => val = z /\ b = false) ->
    (Instr.lookup t vm (Z1k (kn != 0) l) ok).run P w = .ok (if ok then .tuple #[val, .bool b] else val) w := fun {r val b} hr hv => by
   rw [hr] at hfind;rcases hvm with ⟨rfl, rfl⟩ | ⟨bb, c, rfl, hb⟩
   all_goals
    unfold Instr.lookup;simp only [Sem.run_bind, run_underlying u1, Result.andThen_ok, Sem.run_pure]
    try simp only [getObj, Sem.run, hb]
    cases r with
    | none =>
     obtain ⟨rfl, rfl⟩ := hv;simp [hchk, hfind, hz]
    | some p =>
     obtain ⟨i, v⟩ := p;obtain ⟨rfl, rfl⟩ := hv;simp [hchk, hfind]
  cases hf : ents.findIdx? (·.1 == l) with
  | none =>
   have hn := Zp8 hf;have hh : ar.mhas ents l = false := by show (ents.find? _).isSome = false; rw [hn]; rfl
   rw [hn] at hok;rw [hh] at hok;obtain ⟨x, x1, x2⟩ := Zgm (v := z) (by simpa using hzv) hok;exact ⟨x, _, fin (r := none) (by rw [hf]; rfl) ⟨rfl, rfl⟩, x1, x2⟩
  | some j =>
   obtain ⟨x0, g1, g2, g3⟩ := Z1n7 hf;have hj : j < es.size := by rw [her.size]; exact (List.getElem?_eq_some_iff.1 g1).1
   have hej : es[j]? = some es[j] := Array.getElem?_eq_getElem hj;obtain ⟨-, -, e3⟩ := her.at_ j _ _ hej g1;have hh : ar.mhas ents l = true := by show (ents.find? _).isSome = true; rw [g2]; rfl
   rw [g2] at hok;rw [hh] at hok;obtain ⟨x, x1, x2⟩ := Zgm (v := es[j].val) (.cl _ _ (by simpa using e3)) hok;exact ⟨x, _, fin (r := some (j, es[j].val)) (by rw [hf]; simp [hej]) ⟨rfl, rfl⟩, x1, x2⟩
 unfold Zea at h
 split at h
 ·split at h
  ·rename_i kn ee hmt
   obtain ⟨l, hkd, hok⟩ := h.out;exact main (es := #[]) (ents := []) (v0 := none) hmt hkd ⟨rfl, fun i e x he => by simp at he⟩ (.inl ⟨hm.v_inv, rfl⟩) ⟨_, rfl, hok⟩
  ·exact h.elim
 ·rename_i k
  obtain ⟨b, mm, rfl, hμ⟩ : ∃ b m, vm = .map (some b) /\ μ k = some (some (b, m)) := by cases hm with | cl _ _ hc => cases hc | mv _ b m hμ => exact ⟨b, m, rfl, hμ⟩
  split at h
  ·rename_i kn ee kn' ents hmt hb
   split at h
   ·rename_i hkn
    obtain rfl := Nat.eq_of_beq_eq_true hkn;obtain ⟨l, hkd, hok⟩ := h.out;have hob : Z13 H k = some (.mp kn ents) := by rw [Z1u] at hb; rw [Z19 hb]; rfl
    obtain ⟨b', es, clock, o1, o2, o3, o4, o5, o6, o7⟩ := hr.obj _ _ hob (by rw [hμ]; simp);rw [hμ] at o1; cases o1;exact main (v0 := none) hmt hkd ⟨o3, o6⟩ (.inr ⟨b, clock, rfl, o2⟩) hok.out
   ·exact h.elim
  ·rename_i kn ee kn' ents bs clock hmt hb
   split at h
   ·rename_i hkn
    obtain rfl := Nat.eq_of_beq_eq_true hkn;obtain ⟨l, hkd, hok⟩ := h.out;have hob : Z13 H k = some (.mpx kn ents bs clock) := by rw [Z1u] at hb; rw [Z19 hb]; rfl
    obtain ⟨b', es, o1, o2, o3, o4, o5, o5', o6, o7⟩ := hr.obj _ _ hob (by rw [hμ]; simp);rw [hμ] at o1; cases o1;exact main (v0 := none) hmt hkd ⟨o3, o6⟩ (.inr ⟨b, clock, rfl, o2⟩) hok.out
   ·exact h.elim
  ·exact h.elim
 ·exact h.elim
end
end Go.Abs

namespace Go.Abs
open Go
section
variable {P : Program} {T : TT} {F : Fz} {μ : Mu} {w : World} {K : D -> Prop}
theorem Zez (hT : TOK P T) {s : St} {a : Act} (hr : HR F μ s.H w) (h : ER F μ s a) {o : Oper} (hk : Z1q ar T s K o.op) :
    (∀ c, o.op ≠ .defer c) /\ ∃ d v, (execOp a.eval o).run P w = .ok (.value v) w /\ VR F μ d v /\ K d := by
  have lift : ∀ {x : Sem Value}, (∃ d v, x.run P w = .ok v w /\ VR F μ d v /\ K d) -> execOp a.eval o = (do pure (.value (<- x))) -> ∃ d v, (execOp a.eval o).run P w = .ok (.value v) w /\ VR F μ d v /\ K d := fun {x} ⟨d, v, h1, h2⟩ he =>
    ⟨d, v, by rw [he]; simp [h1], h2⟩
  obtain ⟨dst, op, type, pos, after, guard⟩ := o
  simp only at hk ⊢
  cases op <;> try exact hk.elim
  case move x =>
    refine ⟨fun c e => (by cases e), ?_⟩
    simp only [Z1q, opt] at hk
    split at hk
    · rename_i d hd; exact ⟨d, a.eval x, by simp [execOp], h.evo hd, hk⟩
    · exact hk.elim
  case assign x =>
    refine ⟨fun c e => (by cases e), ?_⟩
    simp only [Z1q, opt] at hk
    split at hk
    · rename_i d hd; exact ⟨d, a.eval x, by simp [execOp], h.evo hd, hk⟩
    · exact hk.elim
  case pick c x y =>
    refine ⟨fun c e => (by cases e), ?_⟩
    simp only [Z1q, Zjo, opt] at hk
    split at hk
    · rename_i hc
      have hcv := (h.evo hc).v_inv
      split at hk
      · rename_i d hd; exact ⟨d, a.eval x, by simp [execOp, hcv, asBool], h.evo hd, hk⟩
      · exact hk.elim
    · rename_i hc
      have hcv := (h.evo hc).v_inv
      split at hk
      · rename_i d hd; exact ⟨d, a.eval y, by simp [execOp, hcv, asBool], h.evo hd, hk⟩
      · exact hk.elim
    · exact hk.elim
  case load t x =>
    refine ⟨fun c e => (by cases e), ?_⟩
    simp only [Z1q] at hk
    split at hk
    · rename_i e d he hd
      exact lift (Zgk hT he hr (h.evo hd) hk) rfl
    · exact hk.elim
  case nilCheck x =>
    refine ⟨fun c e => (by cases e), ?_⟩
    simp only [Z1q] at hk
    split at hk
    · rename_i d hd
      split at hk
      · rename_i hp
        have hv := h.evo hd
        refine ⟨d, a.eval x, ?_, hv, hk⟩
        have : ∀ v, VR F μ d v -> (∃ ad, v = .pointer (some ad)) ∨ (∃ f vs, v = .func (.func f) #[] vs) := fun v hv => by
          cases hv with
          | cl _ _ hc => cases hc <;> first | exact .inl ⟨_, rfl⟩ | exact .inr ⟨_, _, rfl⟩ | simp [Zqz] at hp
          | _ => first | exact .inl ⟨_, rfl⟩ | exact .inr ⟨_, _, rfl⟩ | simp [Zqz] at hp
        have this := this _ hv
        rcases this with ⟨ad, e⟩ | ⟨f, vs, e⟩ <;> simp [execOp, e]
      · exact hk.elim
    · exact hk.elim
  case binOp op t x y ty =>
    refine ⟨fun c e => (by cases e), ?_⟩
    simp only [Z1q] at hk
    split at hk
    · rename_i h1 h2
      split at hk
      · rename_i e hlit he
        split at hk
        · rename_i hkc
          have v1 := (h.evo h1).v_inv
          have v2 := (h.evo h2).v_inv
          obtain ⟨d, hd, hkc', -⟩ := Z1e hT he
          rw [hkc] at hkc'
          obtain ⟨ms, rfl⟩ : ∃ e', d = .interface e' := by cases d <;> simp [Zaw] at hkc'; exact ⟨_, rfl⟩
          have heq : (Op.equal t .nilIface .nilIface).run P w = .ok true w := by
            unfold Op.equal Op.maxDepth Op.equalIn
            rw [Sem.run_bind, run_underlying hd w]
            rfl
          obtain ⟨d, v, g1, g2⟩ := Za8 (F := F) (μ := μ) (op := op) (x := .nilIface) (y := .nilIface) (b := true) (Zi7 heq fun op ho => by rcases ho with rfl | rfl <;> rfl) hk
          refine ⟨d, v, ?_, g2⟩
          have hg : (eqGuard op t x y .nilIface .nilIface).run P w = .ok () w := by
            unfold eqGuard
            cases y <;> simp [Zr1] at hlit
            cases op <;> simp
          simp [execOp, v1, v2, hg, g1]
        · exact hk.elim
      · exact hk.elim
    · rename_i d1 d2 hno h1 h2
      obtain ⟨d, v, g1, g2⟩ := Zlu hT (h.evo h1) (h.evo h2) (w := w) hk
      refine ⟨d, v, ?_, g2⟩
      have hg : (eqGuard op t x y (a.eval x) (a.eval y)).run P w = .ok () w := by
        have n1 : (¬ (a.eval x = .nilIface /\ a.eval y = .nilIface) /\ ¬ (∃ as, a.eval x = .agg as)) ∨ (P.eqGuardType P.depth t = false /\ ∃ as bs, a.eval x = .agg as /\ a.eval y = .agg bs) := by
          unfold Zbd at hk
          have v1 := h.evo h1
          have v2 := h.evo h2
          split at hk <;> first
            | exact hk.elim
            | (have e1 := v1.v_inv; rw [e1]; exact .inl ⟨fun h => (by have e9 := h.1; cases e9), fun ⟨_, h⟩ => (by cases h)⟩)
            | (obtain ⟨a1, c1, e1, -⟩ := v1.sl_inv; rw [e1]; exact .inl ⟨fun h => (by have e9 := h.1; cases e9), fun ⟨_, h⟩ => (by cases h)⟩)
            | (obtain ⟨a1, c1, e1, -⟩ := v1.o_inv; rw [e1]; exact .inl ⟨fun h => (by have e9 := h.1; cases e9), fun ⟨_, h⟩ => (by cases h)⟩)
            | (obtain ⟨a1, e1, -⟩ := v1.ifc_inv; rw [e1]; exact .inl ⟨fun h => (by have e9 := h.1; cases e9), fun ⟨_, h⟩ => (by cases h)⟩)
            | (split at hk
               · rename_i e he
                 split at hk
                 · rename_i n hf ha
                   obtain ⟨as, bs, rfl, rfl, -⟩ := hk.out
                   exact .inr ⟨(Zef hT he hf).1, _, _, Z97 v1, Z97 v2⟩
                 · exact hk.elim
               · exact hk.elim)
        rcases n1 with n1 | ⟨n1, as, bs, e1, e2⟩
        · unfold eqGuard
          generalize a.eval x = va at n1 ⊢
          generalize a.eval y = vb at n1 ⊢
          cases op <;> first | rfl | (cases va <;> first | rfl | (exact absurd ⟨_, rfl⟩ n1.2) | (cases vb <;> first | rfl | exact absurd ⟨rfl, rfl⟩ n1.1))
        · rw [e1, e2]; exact run_eqGuard_agg w op t x y as bs n1
      simp [execOp, hg, g1]
    · exact hk.elim
  case lookup t x i ok =>
    refine ⟨fun c e => (by cases e), ?_⟩
    simp only [Z1q] at hk
    split at hk
    · rename_i d1 d2 h1 h2
      exact lift (Zp9 hT hr (h.evo h1) (h.evo h2) hk) rfl
    · exact hk.elim
  case unOp op t x =>
    refine ⟨fun c e => (by cases e), ?_⟩
    simp only [Z1q] at hk
    split at hk
    · rename_i d hd; exact lift (Zp7 (h.evo hd) hk) rfl
    · exact hk.elim
  case convert src dst x =>
    refine ⟨fun c e => (by cases e), ?_⟩
    simp only [Z1q] at hk
    split at hk
    · rename_i d hd; exact lift (Zjl hT (h.evo hd) hk) rfl
    · exact hk.elim
  case makeInterface t x =>
    refine ⟨fun c e => (by cases e), ?_⟩
    simp only [Z1q] at hk
    split at hk
    · rename_i d hd; exact lift (Zm6 hT (h.evo hd) hk) rfl
    · exact hk.elim
  case makeFunc fn first caps =>
    refine ⟨fun c e => (by cases e), ?_⟩
    exact lift (Zm5 h hk) rfl
  case build t parts =>
    refine ⟨fun c e => (by cases e), ?_⟩
    exact lift (Zm9 hT h hk) rfl
  case fieldAddr t x f =>
    refine ⟨fun c e => (by cases e), ?_⟩
    simp only [Z1q] at hk
    split at hk
    · rename_i d hd; exact lift (Zlw hT (h.evo hd) hk) rfl
    · exact hk.elim
  case field t x f =>
    refine ⟨fun c e => (by cases e), ?_⟩
    simp only [Z1q] at hk
    split at hk
    · rename_i d hd; exact lift (Zia hT (h.evo hd) hk) rfl
    · exact hk.elim
  case indexAddr t x i =>
    refine ⟨fun c e => (by cases e), ?_⟩
    simp only [Z1q] at hk
    split at hk
    · rename_i d1 d2 h1 h2; exact lift (Zm3 hT (h.evo h1) (h.evo h2) hk) rfl
    · exact hk.elim
  case index t x i =>
    refine ⟨fun c e => (by cases e), ?_⟩
    simp only [Z1q] at hk
    split at hk
    · rename_i d1 d2 h1 h2; exact lift (Zid hT (h.evo h1) (h.evo h2) hk) rfl
    · exact hk.elim
  case extract x i =>
    refine ⟨fun c e => (by cases e), ?_⟩
    simp only [Z1q] at hk
    split at hk
    · rename_i d hd; exact lift (Zlx (h.evo hd) hk) rfl
    · exact hk.elim
  case slice t x lo hi mx =>
    refine ⟨fun c e => (by cases e), ?_⟩
    cases mx with
    | some m =>
      simp only [Z1q] at hk
      split at hk
      · rename_i d hd; exact lift (Zjv hT h (h.evo hd) hk) rfl
      · exact hk.elim
    | none =>
      simp only [Z1q] at hk
      split at hk
      · rename_i d hd; exact lift (Zma hT h (h.evo hd) hk) rfl
      · exact hk.elim
  case typeAssert x xt t ok =>
    refine ⟨fun c e => (by cases e), ?_⟩
    simp only [Z1q] at hk
    split at hk
    · rename_i d hd; exact lift (Zm7 hT (h.evo hd) hk) rfl
    · exact hk.elim
  case call c =>
    refine ⟨fun c e => (by cases e), ?_⟩
    obtain ⟨callee, args, argTypes⟩ := c
    cases callee with
    | value f => exact hk.elim
    | invoke r m => exact hk.elim
    | builtin b =>
      have bi : ∀ {x : Sem Value}, (∃ d v, x.run P w = .ok v w /\ VR F μ d v /\ K d) -> (∀ cc, builtin b argTypes type cc (args.map a.eval) = (do pure (.value (<- x)))) ->
          ∃ d v, (execOp a.eval ⟨dst, .call { callee := .builtin b, args, argTypes }, type, pos, after, guard⟩).run P w = .ok (.value v) w /\ VR F μ d v /\ K d := fun {x} ⟨d, v, h1, h2⟩ he =>
        ⟨d, v, by simp only [execOp, resolve, Sem.run_bind, Sem.run_pure, Result.andThen_ok, invoke]; rw [he]; simp [h1], h2⟩
      cases b <;> try exact hk.elim
      case len =>
        simp only [Z1q] at hk
        obtain ⟨args⟩ := args
        obtain ⟨argTypes⟩ := argTypes
        simp only at hk
        split at hk
        · rename_i x t
          split at hk
          · rename_i d hd; exact bi (Zm4 hT (h.evo hd) (ty := type) hk) (fun _ => by simp [builtin])
          · exact hk.elim
        · exact hk.elim
      case max => exact bi (by simpa using Zgl (P := P) (w := w) (ty := type) (ts := argTypes) (mx := true) h hk) (fun _ => rfl)
      case min => exact bi (by simpa using Zgl (P := P) (w := w) (ty := type) (ts := argTypes) (mx := false) h hk) (fun _ => rfl)
end
end Go.Abs

/- Part TyBA of the proofs about the benches of the accordion maker: see the last text of the claim for what is proved. -/
import Derived.Lib.LaidU8
import Derived.Shelf.Vars
import Derived.Lay
import Derived.SizedLaws
import Derived.Shelf.Strings.Cut
import Derived.Test.YthljpccegkmdnaaGreatDoorProg
import Derived.Test.YthljpccegkmdnaaGreatDoorTyAW
import Derived.Test.YthljpccegkmdnaaGreatDoorTyAZ
import Derived.Test.YthljpccegkmdnaaGreatDoorTyAX
set_option linter.unusedVariables false
set_option linter.unusedSimpArgs false
set_option linter.unnecessarySimpa false
set_option linter.constructorNameAsVariable false

namespace Go.Proofs.YthljpccegkmdnaaGreatDoor
open Go Go.Abs Go.Proofs
open Bn (Sh Tk Wk Z14z Z14x Fin)
open Go.ChangeShapes Go.WideShapes Go.RowKit
theorem Z1ju (s : ByteArray) : ∃ t : Txt.By, s = Txt.bs t := ⟨s.data.toList, (Txt.bs_of s).symm⟩
section
variable {H : Type} {enc : TypeId × Value -> H} {W : World} {hk : KnowW W} {base b0 : Nat} {spare : Nat -> Bool} {held : Bool}
set_option maxRecDepth 100000 in
theorem Z1ji {v : Value} {d : DataW H} {ps : List MemPlace} (hval : Value.okWide Tryz.prog W .any b0 9 v) (h : DataW.Trod enc Tryz.prog W base spare held 9 v d ps) : ∃ t : Txt.By, VR (fzW W hk) mu0 (tD t) v := by
 obtain ⟨fuel, hf⟩ := h;obtain ⟨s, rfl⟩ := okWide_string Tryz.underlying9 hval;obtain ⟨t, ht⟩ := Z1ju s;exact ⟨t, by rw [ht]; exact .cl _ _ (.v _ rfl)⟩
set_option maxRecDepth 100000 in
theorem Z108 {v : Value} (hval : Value.okWide Tryz.prog W .any b0 3 v) : ∃ n : Int, VR (fzW W hk) mu0 (I n) v := by
 obtain ⟨n, rfl⟩ := okWide_int Tryz.underlying3 hval;exact ⟨n, .cl _ _ (.v _ rfl)⟩
set_option maxRecDepth 100000 in
theorem Z1jj {v : Value} {d : DataW H} {ps : List MemPlace} (hval : Value.okWide Tryz.prog W .any b0 5 v) (h : DataW.Trod enc Tryz.prog W base spare held 5 v d ps) : ∃ b : UInt8, VR (fzW W hk) mu0 (.v (.int .u8 (b.toNat : Int))) v := by
 obtain ⟨fuel, hf⟩ := h;obtain ⟨n, rfl⟩ := okWide_int Tryz.underlying5 hval;obtain ⟨m, hm, -, hwf⟩ := DataW.trod_int Tryz.underlying5 hf;simp [Value.cells] at hm;subst hm;have h1 : IntKind.u8.min <= n /\ n <= IntKind.u8.max := by simpa [Lit.wf] using hwf
 have h2 : IntKind.u8.min = 0 := by decide
 have h3 : IntKind.u8.max = 255 := by decide
 refine ⟨UInt8.ofNat n.toNat, ?_⟩;have e : ((UInt8.ofNat n.toNat).toNat : Int) = n := by rw [Txt.toNat_of (by omega)]; omega
 rw [e];exact .cl _ _ (.v _ rfl)
end
def Z1he : List (String × DataW Unit) := [("math/bits.deBruijn32tab", Rows.laid_math_bits_deBruijn32tab), ("math/bits.deBruijn64tab", Rows.laid_math_bits_deBruijn64tab), ("internal/strconv.uint64pow10", Rows.laid_internal_strconv_uint64pow10), ("unicode/utf8.acceptRanges", Rows.laid_unicode_utf8_acceptRanges), ("strconv.ErrRange", Rows.laid_strconv_ErrRange), ("strconv.ErrSyntax", Rows.laid_strconv_ErrSyntax), ("unicode/utf8.first", Rows.laid_unicode_utf8_first)]
theorem Z1hy {W : World} {n : String} {g : Nat} {cs : Array Value} (hg : Tryz.prog.globalNamed n = some g) (h : W.var? Tryz.prog n = some cs) : ∃ t fr, W.heap[g]? = some (.cells cs t fr) := by
 simp only [World.var?, hg, Option.bind_some] at h
 split at h
 ·rename_i cs' t fr he; cases h; exact ⟨t, fr, he⟩
 ·cases h
theorem Z1hz {W : World} {n : String} {g : Nat} {nm : String} {d : DataW Unit} (h : Lib.VarReads Tryz.prog W n (.iface nm d)) (hg : Tryz.prog.globalNamed n = some g) (ht : (Tryz.prog.globals[g]?).map (·.type) = some 207) : ∃ te pe t fr, W.heap[g]? = some (.cells #[.iface te pe] t fr) := by
 obtain ⟨g', t, cs, fuel, p, h1, h2, h3, h4⟩ := h;obtain rfl := Option.some.inj (hg.symm.trans h1);obtain rfl := Option.some.inj (ht.symm.trans h2);obtain ⟨f', u, v, hc, -, -⟩ := iface_of_trod Tryz.underlying207 h4;obtain ⟨t, fr, hb⟩ := Z1hy hg h3;refine ⟨u, v, t, fr, ?_⟩;rw [hb, <- hc]
def Z1dh : List (String × DataW Unit) := [("errors.errorType", Rows.laid_errors_errorType)]
def Z1m8 : List (String × DataW Unit) := [("math/bits.deBruijn32tab", Rows.laid_math_bits_deBruijn32tab), ("math/bits.deBruijn64tab", Rows.laid_math_bits_deBruijn64tab), ("internal/strconv.uint64pow10", Rows.laid_internal_strconv_uint64pow10), ("unicode/utf8.acceptRanges", Rows.laid_unicode_utf8_acceptRanges), ("errors.errorType", Rows.laid_errors_errorType), ("strconv.ErrRange", Rows.laid_strconv_ErrRange), ("strconv.ErrSyntax", Rows.laid_strconv_ErrSyntax), ("unicode/utf8.first", Rows.laid_unicode_utf8_first)]
noncomputable def Z1lv (os : Os) : World :=
 let w0 := World.laidAll Tryz.prog os Z1he
 { w0 with heap := w0.heap.modify 0 fun
   | .cells _ t frozen => .cells #[.iface 299 (.agg #[.pointer (some ⟨9, 207, none⟩)])] t frozen
   | o => o }
theorem Z1e5 : Tryz.prog.globalNamed "errors.errorType" = some 0 := by kernel_rfl
theorem Z1e6 : (Tryz.prog.cutTypes.find? (·.1 == "internal/reflectlite.rtype")).map (·.2) = some 299 := by kernel_rfl
theorem Z1dx : ((List.range 370).filter fun t => Tryz.prog.rowNamed t [101, 114, 114, 111, 114]) = [207] := by kernel_rfl
theorem Z1dt : Tryz.prog.types.size = 370 := by kernel_rfl
set_option maxRecDepth 100000 in
theorem Z1p4 {W : World} (h : laidMetH Tryz.prog Z1m8 W) (hs : W.ShapedOpen Tryz.prog) : KnowW W := by
 have hh : laidMet Tryz.prog Z1he W /\ handlesMet Tryz.prog Z1dh W := h;have h' := hh.1;refine ⟨?_, fun b p hp => ?_⟩
 ·obtain ⟨name, u, ty, e1, e2, e3, e4, e5⟩ := hh.2 _ (List.mem_singleton.2 rfl);have en : name = [101, 114, 114, 111, 114] := (Option.some.inj e1).symm;subst en;obtain rfl := Option.some.inj (Z1e6.symm.trans e2);have hm : ty ∈ (List.range 370).filter fun t => Tryz.prog.rowNamed t [101, 114, 114, 111, 114] := List.mem_filter.2 ⟨List.mem_range.2 (by rw [<- Z1dt]; exact e3), e4⟩;rw [Z1dx] at hm;obtain rfl := List.mem_singleton.1 hm;have hh : typeHandle Tryz.prog 207 = .pointer (some ⟨9, 207, none⟩) := by kernel_rfl
  rw [hh] at e5;show W.cell? ⟨0, 0, none⟩ = some Zxj;simpa [Zxj] using World.var?_cell Z1e5 e5 0
 match b, hp with
 | 1, hp =>
  cases hp
  obtain ⟨g, t, cs, fuel, p, h1, h2, h3, h4⟩ := Lib.laidMet.reads h' (n := "internal/strconv.uint64pow10") (d := Rows.laid_internal_strconv_uint64pow10) (.tail _ (.tail _ (.head _)));obtain rfl : g = 1 := Option.some.inj (h1.symm.trans (by kernel_rfl));obtain rfl : t = 313 := Option.some.inj (h2.symm.trans (by kernel_rfl));have := Lib.cells_of_tab (k := .u64) (zs := Lib.pow10Tab) Tryz.underlying313 Tryz.underlying149 (by kernel_rfl) (by kernel_rfl) h4;obtain ⟨t, fr, hb⟩ := Z1hy h1 h3;exact ⟨_, hb, t, fr, by rw [<- Array.toArray_toList (xs := cs), this]; rfl⟩
 | 2, hp =>
  cases hp
  have h0 : ((begin Tryz.prog (fun _ _ => 0) default).world.heap[2]?).bind Obj.row? = some (#[.int .i64 0], 3) := by kernel_rfl
  obtain ⟨m, hm⟩ := cell_of_shapedOpen_int hs (of_decide_eq_true (by kernel_rfl)) h0 rfl (by kernel_rfl) (by kernel_rfl) Tryz.underlying3;obtain ⟨cs, hh, hz, -⟩ := hs.1 2 #[.int .i64 0] 3 (of_decide_eq_true (by kernel_rfl)) h0;refine ⟨_, hh, m, 3, (0, 0), ?_⟩;have hz1 : cs.size = 1 := hz;have hc : cs[0]? = some (.int .i64 m) := by simpa [World.cell?, hh] using hm
  have : cs = #[.int .i64 m] := by
   apply Array.ext_getElem?
   intro i
   match i with
   | 0 => rw [hc]; rfl
   | i + 1 => rw [Array.getElem?_eq_none (by omega), Array.getElem?_eq_none (by simp)]
  rw [this]
 | 3, hp =>
  cases hp
  obtain ⟨te, pe, t, fr, hb⟩ := Z1hz (Lib.laidMet.reads h' (n := "strconv.ErrSyntax") (d := Rows.laid_strconv_ErrSyntax) (.tail _ (.tail _ (.tail _ (.tail _ (.tail _ (.head _))))))) (g := 3) (by kernel_rfl) (by kernel_rfl);exact ⟨_, hb, te, pe, t, fr, rfl⟩
 | 4, hp =>
  cases hp
  obtain ⟨te, pe, t, fr, hb⟩ := Z1hz (Lib.laidMet.reads h' (n := "strconv.ErrRange") (d := Rows.laid_strconv_ErrRange) (.tail _ (.tail _ (.tail _ (.tail _ (.head _)))))) (g := 4) (by kernel_rfl) (by kernel_rfl);exact ⟨_, hb, te, pe, t, fr, rfl⟩
set_option maxRecDepth 100000 in
theorem Z1mg {fnum : FuncId} (walk : ∀ (s : Sh) (TL : List D) (_ : TL = s.tasks.map Z14z) (_ : s.tasks.length <= 9223372036854775807) (t : Txt.By) (L : List D) (nums : List Int) (_ : L = nums.map I) (_ : L.length <= 9223372036854775807) (a b z : Int) (c : UInt8) (_ : z = (c.toNat : Int)) (Q), Q (RA.ret (.v (.bool true))) [] ->
  CallA Tryz.prog fnum [.agg [I s.benches, .sl 3 TL], tD t, .sl 1 L, I a, I b, .v (.int .u8 z)] [] Q) : Zlf fnum [64, 9, 44, 3, 3, 5] := by
 intro H enc W hk base vs ds p hA hval hlite;obtain ⟨v0, vs, d0, ds', p0, q0, rfl, rfl, rfl, h0, hA⟩ := trodAll_cons hA;obtain ⟨v1, vs, d1, ds', p1, q1, rfl, rfl, rfl, h1, hA⟩ := trodAll_cons hA;obtain ⟨v2, vs, d2, ds', p2, q2, rfl, rfl, rfl, h2, hA⟩ := trodAll_cons hA;obtain ⟨v3, vs, d3, ds', p3, q3, rfl, rfl, rfl, h3, hA⟩ := trodAll_cons hA;obtain ⟨v4, vs, d4, ds', p4, q4, rfl, rfl, rfl, h4, hA⟩ := trodAll_cons hA;obtain ⟨v5, vs, d5, ds', p5, q5, rfl, rfl, rfl, h5, hA⟩ := trodAll_cons hA;obtain ⟨rfl, rfl, rfl⟩ := trodAll_nil hA;obtain ⟨s, hs, k0⟩ := Z1e1 (hk := hk) (hval 0 64 v0 rfl rfl) h0 (hlite 0 64 d0 rfl rfl);obtain ⟨t, k1⟩ := Z1ji (hk := hk) (hval 1 9 v1 rfl rfl) h1;obtain ⟨n2, hl2, k2⟩ := Zvu (hk := hk) (hval 2 44 v2 rfl rfl) h2;obtain ⟨a, k3⟩ := Z108 (hk := hk) (hval 3 3 v3 rfl rfl);obtain ⟨b, k4⟩ := Z108 (hk := hk) (hval 4 3 v4 rfl rfl);obtain ⟨c, k5⟩ := Z1jj (hk := hk) (hval 5 5 v5 rfl rfl) h5;have f1 := hs.1;exact ⟨[.agg [I s.benches, .sl 3 (s.tasks.map Z14z)], tD t, .sl 1 (n2.map I), I a, I b, .v (.int .u8 (c.toNat : Int))], rfl, fun i d v hd hv => by
  match i, hd, hv with
  | 0, hd, hv => simp at hd hv; subst hd; subst hv; exact k0
  | 1, hd, hv => simp at hd hv; subst hd; subst hv; exact k1
  | 2, hd, hv => simp at hd hv; subst hd; subst hv; exact k2
  | 3, hd, hv => simp at hd hv; subst hd; subst hv; exact k3
  | 4, hd, hv => simp at hd hv; subst hd; subst hv; exact k4
  | 5, hd, hv => simp at hd hv; subst hd; subst hv; exact k5
  | i + 6, hd, hv => simp at hd, fun Q hq => walk s _ rfl (by omega) t _ n2 rfl hl2 a b _ c rfl Q hq⟩
set_option maxRecDepth 100000 in
theorem Z1kn {fnum : FuncId} (walk : ∀ (L : List D) (nums : List Int) (_ : L = nums.map I) (_ : L.length <= 9223372036854775807) (t : Txt.By) (Q), Q (RA.ret (.v (.bool true))) [] -> CallA Tryz.prog fnum [.sl 1 L, tD t] [] Q) : Zlf fnum [44, 9] := by
 intro H enc W hk base vs ds p hA hval hlite;obtain ⟨v0, vs, d0, ds', p0, q0, rfl, rfl, rfl, h0, hA⟩ := trodAll_cons hA;obtain ⟨v1, vs, d1, ds', p1, q1, rfl, rfl, rfl, h1, hA⟩ := trodAll_cons hA;obtain ⟨rfl, rfl, rfl⟩ := trodAll_nil hA;obtain ⟨n2, hl2, k0⟩ := Zvu (hk := hk) (hval 0 44 v0 rfl rfl) h0;obtain ⟨t, k1⟩ := Z1ji (hk := hk) (hval 1 9 v1 rfl rfl) h1;exact ⟨[.sl 1 (n2.map I), tD t], rfl, fun i d v hd hv => by
  match i, hd, hv with
  | 0, hd, hv => simp at hd hv; subst hd; subst hv; exact k0
  | 1, hd, hv => simp at hd hv; subst hd; subst hv; exact k1
  | i + 2, hd, hv => simp at hd, fun Q hq => walk _ n2 rfl hl2 t Q hq⟩
theorem Z1hp {H : Type} {enc : TypeId × Value -> H} {a : Assume} {C : Checked} {os : Os} {f : FuncId} {fn : Func} {s : ChangeSpec} {conds : List PathCond} {apart fresh handsOn again : Bool} {X : World -> Array Value -> Prop}
  (hX : ∀ (w w' : World) (args : Array Value), w.heap = w'.heap -> X w args -> X w' args)
  (own : ownKnob C.prog.godebug = none) (started : os.Started) (noInit : C.prog.inits.idxOf? f = none) (hfn : C.prog.funcs[f]? = some fn)
  (witness : ∃ (w : World) (tape : Tape) (i : Input), w.os = os /\ (w.forCall tape i).Shaped C.prog /\ i.vars = [] /\ Input.okWide C.prog (w.forCall tape i) .any w.heap.size f i /\
   ((s.pre enc C.prog fn conds apart (w.forCall tape i).memory i.args /\ X (w.forCall tape i).memory i.args) /\ sizedMet enc C.prog fn (OpenSpec.ofChange s) apart (w.forCall tape i).memory i.args) /\ a.holds C.prog (lone (Frame.enter C.prog f i.args .normal) [] (w.forCall tape i)))
  (contract : ∀ (W : World) (base : Nat) (args : Array Value) (ds gs : List (DataW H)) (before : List MemPlace),
   (∀ (j : Nat) t v, fn.params[j]? = some t -> args[j]? = some v -> Value.okWide C.prog W .any base t v) ->
   DataW.Whole enc C.prog fn.params.toList s.vars apart W args.toList ds gs before ->
   (DataW.weightsEach C.prog (fn.params.toList ++ s.plain.varTypes C.prog) (ds ++ gs)).all (· <= reachBytes) = true -> X W args -> W.ShapedOpen C.prog ->
   Calls C.prog f args W fun e W' => ∃ v, e = .returned v /\ s.post enc C.prog fn apart fresh handsOn again W args v W') :
  ReturnsInHanded a C os f .any (fun w args => (s.pre enc C.prog fn conds apart w args /\ X w args) /\ sizedMet enc C.prog fn (OpenSpec.ofChange s) apart w args) (s.post enc C.prog fn apart fresh handsOn again) := by
 refine returnsInHanded_of_calls own started noInit witness ?_;intro w tape i _ hsh _ hok hpre _;obtain ⟨_, _, _, fn', hfn', _, _, _, _, hval⟩ := hok;have e : fn' = fn := Option.some.inj (hfn'.symm.trans hfn);subst e;obtain ⟨⟨⟨ds, gs, before, hw, hc⟩, hx⟩, hz⟩ := hpre;have hw' := DataW.Whole.of_heap (w' := w.forCall tape i) (by rfl) hw;refine (contract (w.forCall tape i) w.heap.size i.args ds gs before hval hw' (hz.weights hw) (hX _ _ _ (by rfl) hx) hsh).mono fun e W' ⟨v, he, hp⟩ => ?_;subst he;exact ChangeSpec.post_blind hp
end Go.Proofs.YthljpccegkmdnaaGreatDoor

namespace Go.Txt
open Go
def Z1ke (c : UInt8) : List By -> By
 | [] => []
 | [a] => a
 | a :: b :: r => a ++ c :: Z1ke c (b :: r)
theorem Z1kj {c : UInt8} : ∀ {l : List By}, l ≠ [] -> (∀ x ∈ l, c ∉ x) -> Z1gn c (Z1ke c l) = l
 | [], h, _ => absurd rfl h
 | [a], _, h => Z1hi (h a (by simp))
 | a :: b :: r, _, h => by
  rw [Z1ke, Z1hj (h a (by simp)), Z1kj (by simp) (fun x hx => h x (List.mem_cons_of_mem _ hx))]
theorem Z1kg (c : UInt8) : ∀ l : By, Z1ke c (Z1gn c l) = l
 | [] => rfl
 | b :: r => by
  have ih := Z1kg c r;simp only [Z1gn]
  split
  ·rename_i e
   cases h : Z1gn c r with
   | nil => exact absurd h (Z1h7 c r)
   | cons x xs => rw [h] at ih; rw [Z1ke, ih, e]; rfl
  ·split
   ·rename_i h; exact absurd h (Z1h7 c r)
   ·rename_i l ls h
    rw [h] at ih
    cases ls with
    | nil => simp only [Z1ke] at ih ⊢; rw [ih]
    | cons y ys => simp only [Z1ke, List.cons_append] at ih ⊢; rw [ih]
theorem Z1kk (c : UInt8) : ∀ l : By, ∀ x ∈ Z1gn c l, c ∉ x
 | [], x, hx => by simp [Z1gn] at hx; subst hx; simp
 | b :: r, x, hx => by
  simp only [Z1gn] at hx
  split at hx
  ·rcases List.mem_cons.1 hx with rfl | hx
   ·simp
   ·exact Z1kk c r x hx
  ·rename_i e
   split at hx
   ·rename_i h; exact absurd h (Z1h7 c r)
   ·rename_i l ls h
    rcases List.mem_cons.1 hx with rfl | hx
    ·have := Z1kk c r l (by rw [h]; simp);simp [this]; exact fun h => e h.symm
    ·exact Z1kk c r x (by rw [h]; simp [hx])
def Z1kh (l : List By) : By := l.flatMap fun x => x ++ [10]
theorem Z1km {l : List By} (h : ∀ x ∈ l, (10 : UInt8) ∉ x) : Z1gn 10 (Z1kh l) = l ++ [[]] := by
 induction l with
 | nil => rfl
 | cons a l ih =>
  have e : Z1kh (a :: l) = a ++ 10 :: Z1kh l := by simp [Z1kh]
  rw [e, Z1hj (h a (by simp)), ih fun x hx => h x (List.mem_cons_of_mem _ hx)]; rfl
theorem Z1ks {t : By} (h : (Z1gn 10 t).getLast? = some []) : t = Z1kh (Z1gn 10 t).dropLast := by
 obtain ⟨l, hl⟩ : ∃ l, Z1gn 10 t = l ++ [[]] := by
  rw [List.getLast?_eq_some_iff] at h;exact h
 rw [hl, List.dropLast_concat];have e := Z1km (l := l) (fun x hx => Z1kk 10 t x (by rw [hl]; simp [hx]));have := congrArg (Z1ke 10) (hl.trans e.symm);rw [Z1kg, Z1kg] at this;exact this
theorem Z1l7 (u : Nat) : ∀ c ∈ Lib.decDigits u, dig c = true := by
 induction u using Nat.strongRecOn with
 | _ u ih =>
  intro c hc;rw [Lib.decDigits] at hc
  split at hc
  ·rw [List.mem_singleton] at hc; subst hc; exact Z1gp.2 (by rw [toNat_of (by omega)]; omega)
  ·rw [List.mem_append] at hc;rcases hc with hc | hc
   ·exact ih (u / 10) (by omega) c hc
   ·rw [List.mem_singleton] at hc; subst hc; exact Z1gp.2 (by rw [toNat_of (by omega)]; omega)
theorem Z1ki {n : Int} (h0 : 0 <= n) {c : UInt8} (hc : dig c = false) : c ∉ Lib.itoa n := by
 unfold Lib.itoa;rw [if_neg (by omega)];intro h;have := Z1l7 _ c h;rw [this] at hc; cases hc
theorem Z1kr {c d : UInt8} (hd : d ≠ c) : ∀ {l : List By}, (∀ x ∈ l, d ∉ x) -> d ∉ Z1ke c l
 | [], _ => by simp [Z1ke]
 | [a], h => h a (by simp)
 | a :: b :: r, h => by
  have h1 := h a (by simp);have h2 := Z1kr hd (l := b :: r) fun x hx => h x (List.mem_cons_of_mem _ hx);simp only [Z1ke, List.mem_append, List.mem_cons, not_or];exact ⟨h1, hd, h2⟩
end Go.Txt

namespace Go.Proofs.YthljpccegkmdnaaGreatDoor.Bn
open Go Go.Abs Go.Proofs
structure PlanOk (s : Sh) (p : List Nat) : Prop where
 lt : ∀ i ∈ p, i < s.tasks.length
 cnt : ∀ i, i < s.tasks.length -> p.count i = (s.tasks.getD i default).works.length
 len : p.length = Z1cw s.tasks
def cntD (s : Sh) (p : List Nat) (k : Nat) : List D := (List.range s.tasks.length).map fun i => I ((p.take k).count i : Nat)
theorem Z158 {s : Sh} {p : List Nat} {k i : Nat} (h : i < s.tasks.length) : (cntD s p k)[i]? = some (I ((p.take k).count i : Nat)) := by
 simp [cntD, h]
theorem Z16l {s : Sh} {p : List Nat} {k i : Nat} (hk : p[k]? = some i) (h : i < s.tasks.length) : cntD s p (k + 1) = (cntD s p k).set i (I (((p.take k).count i + 1 : Nat) : Int)) := by
 refine List.ext_getElem? fun j => ?_;rw [List.getElem?_set]
 by_cases hj : j < s.tasks.length
 ·rw [Z158 hj, Z154 hk j]
  by_cases e : i = j
  ·subst e; rw [if_pos rfl, if_pos rfl, if_pos (by simpa [cntD] using hj)]
  ·rw [if_neg (fun h => e h.symm), if_neg e, Z158 hj]; rfl
 ·rw [if_neg (by omega), List.getElem?_eq_none (by simp [cntD]; omega), List.getElem?_eq_none (by simp [cntD]; omega)]
set_option maxRecDepth 20000 in
set_option maxHeartbeats 2000000 in
theorem Z18e (s : Sh) (h4 : s.tasks.length <= 4) (hw : ∀ t ∈ s.tasks, t.works.length <= 1152921504606846976) (p : List Nat) (hp : PlanOk s p) (TL PL : List D) (hT : TL = s.tasks.map Z14z) (hP : PL = p.map (fun i => I (i : Nat))) (Q) (hq : Q (RA.ret (.v .nilIface)) []) :
  CallA Tryz.prog 152 [.agg [I s.benches, .sl 3 TL], .sl 1 PL] [] Q := by
 obtain ⟨A, hA⟩ : ∃ A, A = ar := ⟨_, rfl⟩;obtain ⟨N, hN⟩ : ∃ N, N = s.tasks.length := ⟨_, rfl⟩;have hTl : TL.length = N := by rw [hT, hN]; simp
 have hPl : PL.length = p.length := by rw [hP]; simp
 have hpb : p.length <= 4 * 1152921504606846976 := by
  rw [hp.len];have := Z15c hw s.tasks.length;rw [List.take_length] at this;exact Nat.le_trans this (Nat.mul_le_mul_right _ h4)
 have hr0 : 0 <= ((TL.length : Nat) : Int) := by omega
 have hr1 : TL.length * 8 <= 140737488355328 /\ TL.length <= 4611686018427387904 := by omega
 refine Z5 Z0 hA Tryz.func152 rfl rfl rfl rfl rfl fun S hS => ?_;cbv;refine ⟨by subst hA; exact hr0, by subst hA; exact hr1, ?_⟩;refine Zb hS ?_;refine Za (α := Int × Nat × List D) (fun q => { env := [(1, .sl 1 PL), (2, .b 0 0), (5, .o 1 1 N), (12, .sl 1 PL), (13, I (A.oi (A.len PL))), (14, I q.1)], H := [.box (.agg [I s.benches, .sl 3 TL]), .els 1 q.2.2], nt := 55, dfs := [] })
  (fun q => p.length - q.2.1) (fun q => q.2.1 <= p.length /\ IsI q.1 q.2.1 /\ q.2.2 = cntD s p q.2.1) (0, 0, List.replicate TL.length (I 0)) ⟨Nat.zero_le _, ⟨rfl⟩, ?_⟩ ?_ ?_
 ·exact List.ext_getElem? fun j => by
   by_cases hj : j < s.tasks.length
   ·rw [Z158 hj, List.getElem?_replicate, if_pos (by omega)]; rfl
   ·rw [List.getElem?_eq_none (by simp; omega), List.getElem?_eq_none (by simp [cntD]; omega)]
 ·exact Zf [0, 1] ⟨by decide, Z9, ⟨rfl, by subst hA; rfl, trivial⟩, ⟨rfl, rfl, by subst hA; rw [<- hTl]; rfl, rfl, rfl, rfl, trivial⟩, rfl, rfl⟩
 rintro ⟨i, k, L⟩ ⟨u1, u2, u3⟩;dsimp only at u1 u2 u3;have hLl : L.length = N := by rw [u3, hN]; simp [cntD]
 refine Zi Z0 hA hS ?_;cbv
 split
 ·rename_i c
  have hk : k < p.length := Z31 hA hPl u2 c;obtain ⟨x, hx⟩ : ∃ x, x = p[k] := ⟨_, rfl⟩;have hpk : p[k]? = some x := by rw [hx]; exact List.getElem?_eq_getElem hk
  have hxl : x < s.tasks.length := hp.lt x (List.mem_of_getElem? hpk);obtain ⟨xI, hxI⟩ : ∃ y, IsI y x := ⟨_, ⟨rfl⟩⟩;have hPk : PL[k]? = some (I xI) := by rw [hP, hxI.eq]; simp [hpk]
  obtain ⟨b, hb⟩ : ∃ b, b = decide (0 <= xI /\ xI <= A.sub (A.oi (A.len TL)) 1) := ⟨_, rfl⟩;have hb1 : b = true := by rw [hb, Z24 hA, yoiL hA hTl]; have := hxI.eq; exact decide_eq_true (by omega)
  have hf : A.fits .i64 (A.sub (A.oi (A.len TL)) 1) := Z14 hA (by rw [Z24 hA, yoiL hA hTl]) (by omega);obtain ⟨cI, hcI⟩ : ∃ y, IsI y ((p.take k).count x) := ⟨_, ⟨rfl⟩⟩;have hcl : (p.take k).count x <= k := Nat.le_trans List.count_le_length (by simp; omega);have hLx : L[x]? = some (I cI) := by rw [u3, hcI.eq]; exact Z158 hxl
  obtain ⟨t, ht⟩ : ∃ t, t = s.tasks[x] := ⟨_, rfl⟩;have htx : s.tasks[x]? = some t := by rw [ht]; exact List.getElem?_eq_getElem hxl
  obtain ⟨WL, hWL⟩ : ∃ WL, WL = t.works.map Z14x := ⟨_, rfl⟩;have hWl : WL.length = t.works.length := by rw [hWL]; simp
  have hTk : TL[x]? = some (.agg [I t.ready, I t.due, .sl 3 WL]) := by rw [hT]; simp [htx, hWL, Z14z]
  have hset : L.set x (I (A.add cI 1)) = cntD s p (k + 1) := by
   rw [Z16l hpk hxl, <- u3, (Zz hA hcI).eq]
  have hcw : (p.take k).count x + 1 <= t.works.length := by
   have h1 := Z154 hpk x;rw [if_pos rfl] at h1;have h2 : (p.take (k + 1)).count x <= p.count x := (List.take_sublist _ _).count_le x;have h3 := hp.cnt x hxl;rw [List.getD_eq_getElem?_getD, htx] at h3;simp only [Option.getD_some] at h3;omega
  have hst := Z7n hA hxI hset.symm;cbv;refine ⟨Z1b hA hPl u2 hk, ⟨_, Z18 hA u2 hPk, ?_⟩⟩;cbv;refine ⟨hf, ?_⟩;refine Z4 hS [I xI, I 0, I (A.sub (A.oi (A.len TL)) 1)] [] [] rfl rfl rfl rfl rfl rfl rfl rfl (by decide) trivial (Zb9 _ _ _ b hb _ ?_);refine Z3 Z0 hA hS ?_;cbv
  split
  ·rename_i c2
   exact absurd (xnot hA c2) (by rw [hb1]; decide)
  cbv;refine ⟨Z4o hA hxI (by omega), ⟨_, Z18 hA hxI hLx, ?_⟩⟩;cbv;refine ⟨Zy hA hcI (by omega), Z4o hA hxI (by omega), ⟨_, Z18 hA hxI hLx, ?_⟩⟩;cbv;refine Z16 Z0 hA hS [0, 1, 2, 3, 4, 5, 6, 7, 8, 9, 10, 11] rfl rfl fun Dk hD => ?_;cbv;refine ⟨Z4o hA hxI (by omega), ⟨_, Z15m hA hxI hLl (by omega), ?_⟩⟩;cbv;refine ⟨Z1b hA hTl hxI (by omega), ⟨_, Z18 hA hxI hTk, ?_⟩⟩;cbv
  split
  ·rename_i c3
   have e3 : A.add cI 1 > A.oi (A.len WL) := xgt hA c3;rw [yoiL hA hWl, (Zz hA hcI).eq] at e3;omega
  cbv;refine ⟨Zy hA u2 (by omega), ?_⟩;refine Z8 (A.add i 1, k + 1, A.set L (A.tn xI) (I (A.add cI 1))) [0, 1] ⟨hk, Zz hA u2, hst⟩ (by simp only; omega) ?_;exact ⟨by decide, Z9, ⟨rfl, rfl, trivial⟩, ⟨rfl, rfl, rfl, rfl, rfl, rfl, trivial⟩, rfl, rfl⟩
 ·rename_i c
  have hk : p.length <= k := Z21 hA hPl u2 c;obtain ⟨nw, hnw⟩ : ∃ x, IsI x (Z1cw s.tasks) := ⟨_, ⟨rfl⟩⟩;have hnl : A.cmp .lss (A.oi (A.len PL)) nw = false := by
   have e : (p.length : Int) = nw := by rw [hnw.eq, hp.len]
   rw [yoiL hA hPl, e]; subst hA; simp [ar, Z25]
  cbv;refine Z7 ?_;cbv;refine Z4 hS [.agg [I s.benches, .sl 3 TL]] [] [] rfl rfl rfl rfl rfl rfl rfl rfl (by decide) trivial (Z18d s TL hT h4 hw nw hnw _ ?_);refine Z3 Z0 hA hS ?_;cbv
  split
  ·rename_i c5
   exact absurd (hnl.symm.trans c5) (by decide)
  cbv;exact Z2 [] (by decide) Z9 (H' := []) (d' := .v .nilIface) trivial rfl (Z1 hq)
end Go.Proofs.YthljpccegkmdnaaGreatDoor.Bn

namespace Go.Proofs.YthljpccegkmdnaaGreatDoor.Bn
open Go Go.Abs Go.Proofs
theorem Z1ad (ty : TypeId) (x : Blk) (Q) (hq : Q (RA.ret (.v (.bool false))) [x]) : CallA Tryz.prog 151 [.v .nilIface, .ifc ty (.b 0 0)] [x] Q := by
 obtain ⟨A, hA⟩ : ∃ A, A = ar := ⟨_, rfl⟩;refine Z5 Z0 hA Tryz.func151 rfl rfl rfl rfl rfl fun S hS => ?_;cbv;exact Z1 hq
structure ShopOk (s : Sh) : Prop where
 chk : Za5 s = 0
 len : s.tasks.length <= 4
 fin : Fin s
set_option maxRecDepth 20000 in
set_option maxHeartbeats 2000000 in
theorem Z16o (s : Sh) (hs : ShopOk s) (p : List Nat) (hp : PlanOk s p) (TL PL : List D) (hT : TL = s.tasks.map Z14z) (hP : PL = p.map (fun i => I (i : Nat))) (Q) (hq : Q (RA.ret (I 0)) []) :
  CallA Tryz.prog 118 [.agg [I s.benches, .sl 3 TL], .sl 1 PL] [] Q := by
 obtain ⟨A, hA⟩ : ∃ A, A = ar := ⟨_, rfl⟩;refine Z5 Z0 hA Tryz.func118 rfl rfl rfl rfl rfl fun S hS => ?_;cbv;refine Z4 hS [.agg [I s.benches, .sl 3 TL]] [] [] rfl rfl rfl rfl rfl rfl rfl rfl (by decide) trivial (bCheck s hs.fin TL hT 0 hs.chk.symm _ ?_);refine Z3 Z0 hA hS ?_;cbv
 split
 ·rename_i c
  exact absurd rfl (xne hA c)
 rename_i c
 cbv;refine Z4 hS [.agg [I s.benches, .sl 3 TL], .sl 1 PL] [] [] rfl rfl rfl rfl rfl rfl rfl rfl (by decide) trivial (Z18e s hs.len hs.fin.2 p hp TL PL hT hP _ ?_);refine Z3 Z0 hA hS ?_;cbv;refine Z4 hS [.v .nilIface, .ifc 230 (.b 0 0)] [1] [.box (.agg [I 0])] rfl rfl rfl rfl rfl rfl rfl rfl (by decide) ⟨rfl, trivial⟩ (Z1ad 230 _ _ ?_);refine Z3 Z0 hA hS ?_;cbv;exact Z2 [] (by decide) Z9 (H' := []) (d' := I 0) trivial rfl (Z1 hq)
theorem Z16p {b : Int} : ∀ {l : List Wk}, chkWs b l = 0 -> ∀ w ∈ l, chkW b w = 0
 | [], _, _, h => by simp at h
 | w :: r, e, x, hx => by
  simp only [chkWs] at e
  by_cases hw : chkW b w = 0
  ·rw [if_pos hw] at e;rcases List.mem_cons.1 hx with rfl | h
   ·exact hw
   ·exact Z16p e x h
  ·rw [if_neg hw] at e; exact absurd e hw
theorem Z16q {b : Int} : ∀ {l : List Tk}, chkTs b l = 0 -> ∀ t ∈ l, chkT b t = 0
 | [], _, _, h => by simp at h
 | w :: r, e, x, hx => by
  simp only [chkTs] at e
  by_cases hw : chkT b w = 0
  ·rw [if_pos hw] at e;rcases List.mem_cons.1 hx with rfl | h
   ·exact hw
   ·exact Z16q e x h
  ·rw [if_neg hw] at e; exact absurd e hw
theorem amg_iff {n lo hi : Int} : amg n lo hi = true ↔ lo <= n /\ n <= hi := by simp [amg]
theorem Z152 {c : Prop} [Decidable c] {x y : Int} (hx : x ≠ 0) (h : (if c then x else y) = 0) : ¬ c /\ y = 0 := by
 by_cases hc : c
 ·rw [if_pos hc] at h; exact absurd h hx
 ·rw [if_neg hc] at h; exact ⟨hc, h⟩
theorem chkS_val {s : Sh} (h : Za5 s = 0) : Val s := by
 unfold Za5 at h;obtain ⟨h1, h⟩ := Z152 (by decide) h;obtain ⟨h2, h⟩ := Z152 (by decide) h;have h1 : amg s.benches 1 3 = true := by simpa using h1
 rw [amg_iff] at h1
 by_cases h3 : chkTs s.benches s.tasks = 0
 ·rw [if_pos h3] at h;obtain ⟨h4, -⟩ := Z152 (by decide) h;have ht := Z16q h3;have hT : ∀ t ∈ s.tasks, (0 <= t.ready /\ t.ready <= 200) /\ (0 <= t.due /\ t.due <= 200) /\ t.works ≠ [] /\ chkWs s.benches t.works = 0 := fun t hm => by
   have := ht t hm;unfold chkT at this;obtain ⟨a1, this⟩ := Z152 (by decide) this;obtain ⟨a2, this⟩ := Z152 (by decide) this;obtain ⟨a3, this⟩ := Z152 (by decide) this;have a1 : amg t.ready 0 200 = true := by simpa using a1
   have a2 : amg t.due 0 200 = true := by simpa using a2
   exact ⟨amg_iff.1 a1, amg_iff.1 a2, a3, this⟩
  refine ⟨h1.1, h1.2, by omega, fun t hm => (hT t hm).1, fun t hm => (hT t hm).2.1, fun t hm => (hT t hm).2.2.1, fun t hm w hw => ?_, by omega⟩;have := Z16p (hT t hm).2.2.2 w hw;unfold chkW at this;obtain ⟨a1, this⟩ := Z152 (by decide) this;obtain ⟨a2, this⟩ := Z152 (by decide) this;obtain ⟨a3, this⟩ := Z152 (by decide) this;obtain ⟨a4, -⟩ := Z152 (by decide) this;have a1 : amg w.b 0 (s.benches - 1) = true := by simpa using a1
  have a2 : amg w.lo 1 20 = true := by simpa using a2
  have a3 : amg w.hi 1 20 = true := by simpa using a3
  rw [amg_iff] at a1 a2 a3;omega
 ·rw [if_neg h3] at h; exact absurd h h3
theorem PlanOk.le {s : Sh} {p : List Nat} (h : PlanOk s p) : PlanLe s p := ⟨h.lt, fun i hi => Nat.le_of_eq (h.cnt i hi)⟩
end Go.Proofs.YthljpccegkmdnaaGreatDoor.Bn

namespace Go.Txt
open Go
open Go.Proofs.YthljpccegkmdnaaGreatDoor.Bn (Sh Tk Wk Val Za5 chkS_val Z1cw)
def benW : By := [98, 101, 110, 99, 104, 101, 115]
def ordW : By := [111, 114, 100, 101, 114]
def Z1lf : By := [99, 108, 111, 115, 101, 100]
def mkW (a b c : Option Int) : Option Wk := match a, b, c with
 | some x, some y, some z => some ⟨x, y, z⟩
 | _, _, _ => none
def Z1ld (s : By) : Option Wk := match Z1gn 58 s with
 | [a, h] => (match Z1gn 45 h with
  | [b, c] => mkW (numB a) (numB b) (numB c)
  | _ => none)
 | _ => none
def Z1l9 : List By -> Option (List Wk)
 | [] => some []
 | p :: ps => match Z1ld p, Z1l9 ps with
  | some w, some ws => some (w :: ws)
  | _, _ => none
def mkT (a b : Option Int) (c : Option (List Wk)) : Option Tk := match a, b, c with
 | some x, some y, some z => some ⟨x, y, z⟩
 | _, _, _ => none
def Z1li : List By -> Option Tk
 | w0 :: w1 :: w2 :: ps => if w0 = ordW then mkT (numB w1) (numB w2) (Z1l9 ps) else none
 | _ => none
def Z1ln : List By -> Option Int
 | [w0, w1] => if w0 = benW then numB w1 else none
 | _ => none
def rdS : Nat -> Bool -> Sh -> List By -> (Bool × Sh) ⊕ Nat
 | _, e, s, [] => .inl (e, s)
 | i, e, s, l :: ls =>
  if e then .inr (i + 1)
  else if i = 0 then match Z1ln (Z1gn 32 l) with
   | some n => rdS 1 false ⟨n, []⟩ ls
   | none => .inr 1
  else if l = Z1lf then rdS (i + 1) true s ls
  else match Z1li (Z1gn 32 l) with
   | some t => rdS (i + 1) false ⟨s.benches, s.tasks ++ [t]⟩ ls
   | none => .inr (i + 1)
def s0 : Sh := ⟨0, []⟩
def Z1lg (t : By) : Sh × Int × Int :=
 if 300 < t.length then (s0, 0, 10) else
  match rdS 0 false s0 (Z1gn 10 t).dropLast with
  | .inr i => (s0, i, 2)
  | .inl (e, s) => if e = false ∨ (Z1gn 10 t).getLast? ≠ some [] then (s0, (Z1gn 10 t).length, 2) else if Za5 s ≠ 0 then (s0, 0, Za5 s) else (s, 0, 0)
def Z1m3 (w : Wk) : By := [32] ++ Lib.itoa w.b ++ [58] ++ Lib.itoa w.lo ++ [45] ++ Lib.itoa w.hi
def Z1le (t : Tk) : By := ordW ++ [32] ++ Lib.itoa t.ready ++ [32] ++ Lib.itoa t.due ++ t.works.flatMap Z1m3 ++ [10]
def Z1lb (s : Sh) : By := benW ++ [32] ++ Lib.itoa s.benches ++ [10]
def Z1ll (s : Sh) : By := Z1lb s ++ s.tasks.flatMap Z1le ++ Z1lf ++ [10]
theorem Z1o9 {s : By} {n : Int} (h : numB s = some n) : ∀ c ∈ s, dig c = true := fun c hc => by
 obtain ⟨h0, -, e, -⟩ := Z1h2 h;rw [<- e] at hc
 cases hd : dig c with
 | true => rfl
 | false => exact absurd hc (Z1ki h0 hd)
theorem Z1nm {s : By} {c : UInt8} (hc : dig c = false) (h : c ∈ s) : numB s = none := by
 cases e : numB s with
 | none => rfl
 | some n => have := Z1o9 e c h; rw [this] at hc; cases hc
theorem Z1o3 {c : UInt8} {a b : By} (h : c ∉ a) (h2 : c ∉ b) : Z1gn c (a ++ c :: b) = [a, b] := by rw [Z1hj h, Z1hi h2]
theorem Z1m5 {c : UInt8} {b : By} (h : c ∈ b) : 2 <= (Z1gn c b).length := by
 rcases Z1hn c b with h1 | ⟨a, r, rfl, h1⟩
 ·exact absurd h h1
 ·rw [Z1hj h1];have := Z1h7 c r
  cases hs : Z1gn c r with
  | nil => exact absurd hs this
  | cons x xs => simp
theorem Z1gs (c : UInt8) : ∀ l : By, (Z1gn c l).length <= l.length + 1 /\ ∀ x ∈ Z1gn c l, x.length <= l.length
 | [] => by simp [Z1gn]
 | b :: r => by
  obtain ⟨h1, h2⟩ := Z1gs c r;simp only [Z1gn]
  split
  ·refine ⟨by simp; omega, fun x hx => ?_⟩;rcases List.mem_cons.1 hx with rfl | hx
   ·simp
   ·have := h2 x hx; simp; omega
  ·split
   ·simp
   ·rename_i l ls he
    rw [he] at h1 h2;refine ⟨by simp at h1 ⊢; omega, fun x hx => ?_⟩;rcases List.mem_cons.1 hx with rfl | hx
    ·have := h2 l (by simp); simp; omega
    ·have := h2 x (by simp [hx]); simp; omega
theorem Z1m9 {a b c : Option Int} (h : a = none ∨ b = none ∨ c = none) : mkW a b c = none := by
 unfold mkW;rcases h with rfl | rfl | rfl
 ·rfl
 ·cases a <;> rfl
 ·cases a <;> cases b <;> rfl
theorem Z1oa {s : By} (h : (58 : UInt8) ∉ s) : Z1ld s = none := by unfold Z1ld; rw [Z1hi h]
theorem Z1ob {a r : By} (ha : (58 : UInt8) ∉ a) (h : (45 : UInt8) ∉ r) : Z1ld (a ++ 58 :: r) = none := by
 unfold Z1ld;rw [Z1hj ha]
 by_cases h58 : (58 : UInt8) ∈ r
 ·have := Z1m5 h58
  match hs : Z1gn 58 r, this with
  | x :: y :: z, _ => rfl
 ·rw [Z1hi h58];dsimp only;rw [Z1hi h]
theorem Z1ny {a b c : By} (ha : (58 : UInt8) ∉ a) (hb : (45 : UInt8) ∉ b) : Z1ld (a ++ 58 :: (b ++ 45 :: c)) = mkW (numB a) (numB b) (numB c) := by
 unfold Z1ld;rw [Z1hj ha]
 by_cases h58 : (58 : UInt8) ∈ b ++ 45 :: c
 ·have hn : numB b = none ∨ numB c = none := by
   rcases List.mem_append.1 h58 with h | h
   ·exact .inl (Z1nm (by decide) h)
   ·rcases List.mem_cons.1 h with h | h
    ·exact absurd h (by decide)
    ·exact .inr (Z1nm (by decide) h)
  rw [Z1m9 (.inr hn)];have := Z1m5 h58
  match hs : Z1gn 58 (b ++ 45 :: c), this with
  | x :: y :: z, _ => rfl
 ·rw [Z1hi h58];dsimp only
  by_cases h45 : (45 : UInt8) ∈ c
  ·rw [Z1hj hb, Z1m9 (.inr (.inr (Z1nm (by decide) h45)))];have := Z1m5 h45
   match hs : Z1gn 45 c, this with
   | x :: y :: z, _ => rfl
  ·rw [Z1o3 hb h45]
theorem Z1me {ps : List By} {p : By} (hp : p ∈ ps) (h : Z1ld p = none) : Z1l9 ps = none := by
 induction ps with
 | nil => cases hp
 | cons x xs ih =>
  simp only [Z1l9];rcases List.mem_cons.1 hp with rfl | hp
  ·rw [h]
  ·rw [ih hp]; cases Z1ld x <;> rfl
theorem Z1lx : ∀ {ps : List By} {ws : List Wk} {p : By} {w : Wk}, Z1l9 ps = some ws -> Z1ld p = some w -> Z1l9 (ps ++ [p]) = some (ws ++ [w])
 | [], ws, p, w, h, hw => by simp only [Z1l9] at h; cases h; simp [Z1l9, hw]
 | x :: xs, ws, p, w, h, hw => by
  simp only [Z1l9] at h
  cases hx : Z1ld x with
  | none => rw [hx] at h; cases h
  | some y =>
   cases hs : Z1l9 xs with
   | none => rw [hx, hs] at h; cases h
   | some ys =>
    rw [hx, hs] at h; cases h;simp only [List.cons_append, Z1l9, hx, Z1lx hs hw]
theorem Z1nn (k : Nat) (s : Sh) (l : By) (ls : List By) : rdS k true s (l :: ls) = .inr (k + 1) := by simp [rdS]
theorem Z1mh {s : Sh} {l : By} {ls : List By} {n : Int} (h : Z1ln (Z1gn 32 l) = some n) : rdS 0 false s (l :: ls) = rdS 1 false ⟨n, []⟩ ls := by simp [rdS, h]
theorem Z1mj {s : Sh} {l : By} {ls : List By} (h : Z1ln (Z1gn 32 l) = none) : rdS 0 false s (l :: ls) = .inr 1 := by simp [rdS, h]
theorem Z1n8 {k : Nat} {s : Sh} {l : By} {ls : List By} (hk : 1 <= k) (h : l = Z1lf) : rdS k false s (l :: ls) = rdS (k + 1) true s ls := by
 have : k ≠ 0 := by omega
 simp [rdS, h, this]
theorem Z1mi {k : Nat} {s : Sh} {l : By} {ls : List By} {t : Tk} (hk : 1 <= k) (h : l ≠ Z1lf) (hm : Z1li (Z1gn 32 l) = some t) : rdS k false s (l :: ls) = rdS (k + 1) false ⟨s.benches, s.tasks ++ [t]⟩ ls := by
 have : k ≠ 0 := by omega
 simp [rdS, h, this, hm]
theorem Z1mk {k : Nat} {s : Sh} {l : By} {ls : List By} (hk : 1 <= k) (h : l ≠ Z1lf) (hm : Z1li (Z1gn 32 l) = none) : rdS k false s (l :: ls) = .inr (k + 1) := by
 have : k ≠ 0 := by omega
 simp [rdS, h, this, hm]
theorem Z1ml {t : By} (h : 300 < t.length) : Z1lg t = (s0, 0, 10) := by unfold Z1lg; rw [if_pos h]
theorem Z1m2 {t : By} {i : Nat} (h : ¬ 300 < t.length) (h1 : rdS 0 false s0 (Z1gn 10 t).dropLast = .inr i) : Z1lg t = (s0, (i : Int), 2) := by unfold Z1lg; rw [if_neg h, h1]
theorem Z1lw {t : By} {s : Sh} (h : ¬ 300 < t.length) (h1 : rdS 0 false s0 (Z1gn 10 t).dropLast = .inl (false, s)) : Z1lg t = (s0, ((Z1gn 10 t).length : Int), 2) := by unfold Z1lg; rw [if_neg h, h1]; simp
theorem Z1mm {t : By} {e : Bool} {s : Sh} (h : ¬ 300 < t.length) (h1 : rdS 0 false s0 (Z1gn 10 t).dropLast = .inl (e, s)) (h2 : (Z1gn 10 t).getLast? ≠ some []) : Z1lg t = (s0, ((Z1gn 10 t).length : Int), 2) := by
 unfold Z1lg; rw [if_neg h, h1]; dsimp only; rw [if_pos (.inr h2)]
theorem Z1my {t : By} {s : Sh} (h : ¬ 300 < t.length) (h1 : rdS 0 false s0 (Z1gn 10 t).dropLast = .inl (true, s)) (h2 : (Z1gn 10 t).getLast? = some []) (h3 : Za5 s ≠ 0) : Z1lg t = (s0, 0, Za5 s) := by
 unfold Z1lg; rw [if_neg h, h1]; dsimp only; rw [if_neg (by simp [h2]), if_pos h3]
theorem Z1mn {t : By} {s : Sh} (h : ¬ 300 < t.length) (h1 : rdS 0 false s0 (Z1gn 10 t).dropLast = .inl (true, s)) (h2 : (Z1gn 10 t).getLast? = some []) (h3 : Za5 s = 0) : Z1lg t = (s, 0, 0) := by
 unfold Z1lg; rw [if_neg h, h1]; dsimp only; rw [if_neg (by simp [h2]), if_neg (by simp [h3])]
theorem Z1o4 {w : Wk} (hb : 0 <= w.b /\ w.b <= 999) (hl : 0 <= w.lo /\ w.lo <= 999) (hh : 0 <= w.hi /\ w.hi <= 999) : (Z1m3 w).length <= 12 := by
 have a := (Z1j3 hb.1 hb.2).2;have b := (Z1j3 hl.1 hl.2).2;have c := (Z1j3 hh.1 hh.2).2;unfold Z1m3; simp; omega
theorem Z1mb : ∀ {l : List Wk}, (∀ w ∈ l, (0 <= w.b /\ w.b <= 999) /\ (0 <= w.lo /\ w.lo <= 999) /\ (0 <= w.hi /\ w.hi <= 999)) -> (l.flatMap Z1m3).length <= 12 * l.length
 | [], _ => by simp
 | w :: l, h => by
  have a := h w (by simp);have b := Z1o4 a.1 a.2.1 a.2.2;have c := Z1mb (l := l) fun x hx => h x (List.mem_cons_of_mem _ hx);simp only [List.flatMap_cons, List.length_append, List.length_cons]; omega
theorem Z1o5 {t : Tk} (hr : 0 <= t.ready /\ t.ready <= 999) (hd : 0 <= t.due /\ t.due <= 999) (hw : ∀ w ∈ t.works, (0 <= w.b /\ w.b <= 999) /\ (0 <= w.lo /\ w.lo <= 999) /\ (0 <= w.hi /\ w.hi <= 999)) : (Z1le t).length <= 14 + 12 * t.works.length := by
 have a := (Z1j3 hr.1 hr.2).2;have b := (Z1j3 hd.1 hd.2).2;have c := Z1mb hw;have d : ordW.length = 5 := rfl;unfold Z1le;simp only [List.length_append, List.length_cons, List.length_nil];omega
structure NumS (s : Sh) : Prop where
 b : 0 <= s.benches /\ s.benches <= 999
 rd : ∀ t ∈ s.tasks, 0 <= t.ready /\ t.ready <= 999
 du : ∀ t ∈ s.tasks, 0 <= t.due /\ t.due <= 999
 wk : ∀ t ∈ s.tasks, ∀ w ∈ t.works, (0 <= w.b /\ w.b <= 999) /\ (0 <= w.lo /\ w.lo <= 999) /\ (0 <= w.hi /\ w.hi <= 999)
theorem Z1n9 {s : Sh} (h : Val s) : NumS s := by
 have b0 := h.b0;have b1 := h.b1;exact ⟨⟨by omega, by omega⟩, fun t ht => by have := h.rd t ht; omega, fun t ht => by have := h.du t ht; omega, fun t ht w hw => by have := h.wk t ht w hw; omega⟩
theorem Z1mz : ∀ {l : List Tk}, (∀ t ∈ l, (Z1le t).length <= 14 + 12 * t.works.length) -> (l.flatMap Z1le).length <= 14 * l.length + 12 * Z1cw l
 | [], _ => by simp
 | t :: l, h => by
  have a := h t (by simp);have c := Z1mz (l := l) fun x hx => h x (List.mem_cons_of_mem _ hx);have e : Z1cw (t :: l) = t.works.length + Z1cw l := by simp [Z1cw]
  simp only [List.flatMap_cons, List.length_append, List.length_cons]; omega
end Go.Txt

namespace Go.Proofs.YthljpccegkmdnaaGreatDoor
open Go.Shelf
open Go.RowKit Go.Lib in
def Tryz.lays145_ren : Go.Shelf.Ren := ⟨fun | 145 => 166 | 220 => 199 | 219 => 193 | 217 => 215 | 225 => 216 | 224 => 217 | 267 => 218 | 266 => 227 | 314 => 228 | n => n, fun | 9 => 9 | 4 => 4 | 59 => 257 | 3 => 3 | 5 => 5 | 46 => 152 | 146 => 331 | 51 => 314 | n => n, fun | 1 => 2 | n => n⟩
theorem Tryz.lays145 : Go.Proofs.Lays.n145 Tryz.prog Tryz.lays145_ren := {
 mixed := by kernel_rfl
 f145 := Tryz.func166.trans (congrArg some (by kernel_rfl))
 f217 := Tryz.func215.trans (congrArg some (by kernel_rfl))
 f219 := Tryz.func193.trans (congrArg some (by kernel_rfl))
 f220 := Tryz.func199.trans (congrArg some (by kernel_rfl))
 f224 := Tryz.func217.trans (congrArg some (by kernel_rfl))
 f225 := Tryz.func216.trans (congrArg some (by kernel_rfl))
 f266 := Tryz.func227.trans (congrArg some (by kernel_rfl))
 f267 := Tryz.func218.trans (congrArg some (by kernel_rfl))
 f314 := Tryz.func228.trans (congrArg some (by kernel_rfl))
 t3 := Tryz.underlying3
 a3 := Tryz.isAgg3
 z3 := Tryz.sizeOf3
 v3 := Tryz.zeroValue3
 t4 := Tryz.underlying4
 a4 := Tryz.isAgg4
 z4 := Tryz.sizeOf4
 v4 := Tryz.zeroValue4
 t5 := Tryz.underlying5
 a5 := Tryz.isAgg5
 z5 := Tryz.sizeOf5
 v5 := Tryz.zeroValue5
 t9 := Tryz.underlying9
 a9 := Tryz.isAgg9
 z9 := Tryz.sizeOf9
 v9 := Tryz.zeroValue9
 t46 := Tryz.underlying152
 a46 := Tryz.isAgg152
 z46 := Tryz.sizeOf152
 v46 := Tryz.zeroValue152
 t51 := Tryz.underlying314
 a51 := Tryz.isAgg314
 z51 := Tryz.sizeOf314
 v51 := Tryz.zeroValue314
 t59 := Tryz.underlying257
 a59 := Tryz.isAgg257
 z59 := Tryz.sizeOf257
 v59 := Tryz.zeroValue257
 t146 := Tryz.underlying331
 a146 := Tryz.isAgg331
 z146 := Tryz.sizeOf331
 v146 := Tryz.zeroValue331
 g1 := by kernel_rfl }
open Go.RowKit Go.Lib in
theorem Tryz.strings_Cut (s sep : ByteArray) (m : Int) (w : World) (hs : s.size < 4294967281) (hm : w.cell? ⟨2, 0, none⟩ = some (.int .i64 m)) :
  Calls Tryz.prog 166 #[.string s, .string sep] w fun e w' => e = .returned (.tuple #[.string ⟨(Lib.cut s.data.toList sep.data.toList).1.toArray⟩, .string ⟨(Lib.cut s.data.toList sep.data.toList).2.1.toArray⟩, .bool (Lib.cut s.data.toList sep.data.toList).2.2]) /\ ∃ n, w' = w.drewN n := Any.strings_Cut Tryz.lays145 s sep m w hs hm
end Go.Proofs.YthljpccegkmdnaaGreatDoor

/- Part TxBG of the proofs about the benches of the accordion maker: see the last text of the claim for what is proved. -/
import Derived.Lib.LaidU8
import Derived.Shelf.Vars
import Derived.Lay
import Derived.SizedLaws
import Derived.Test.YthljpccegkmdnaaGreatDoorTxAT
import Derived.Test.YthljpccegkmdnaaGreatDoorTxAV
import Derived.Test.YthljpccegkmdnaaGreatDoorTxAP
import Derived.Test.YthljpccegkmdnaaGreatDoorTxBF
import Derived.Test.YthljpccegkmdnaaGreatDoorTxAM
set_option linter.unusedVariables false
set_option linter.unusedSimpArgs false
set_option linter.unnecessarySimpa false
set_option linter.constructorNameAsVariable false

namespace Go.Proofs.YthljpccegkmdnaaGreatDoor
open Go Go.Abs Go.Proofs Go.Batch Go.Txt
def tD (l : By) : D := .v (.string (bs l))
theorem Z1jt {A : Ar} (hA : A = ar) {x y : ByteArray} (h : x.size + y.size <= 1000000) : A.scatOK x y := by subst hA; show _ <= _; omega
theorem Z1j9 {A : Ar} (hA : A = ar) (s : By) : A.oi (A.slen (bs s)) = (s.length : Int) := by subst hA; rfl
theorem Z1hx (l : By) : (bs l).toList = l := by rw [Lib.toList_data]; exact Z1gy l
theorem yseq {A : Ar} (hA : A = ar) (a b : By) : A.seq (bs a) (bs b) = decide (a = b) := by
 subst hA;show ((bs a).toList == (bs b).toList) = _;rw [Z1hx, Z1hx]
 by_cases h : a = b
 ·subst h; simp
 ·rw [beq_eq_false_iff_ne.2 h]; simp [h]
theorem Z1h3 (n : Int) (t : By) (ht : t = Lib.itoa n) (h0 : -9223372036854775808 <= n) (h1 : n <= 9223372036854775807) (Q) (hq : Q (RA.ret (tD t)) []) : CallA Tryz.prog 79 [I n] [] Q := by
 subst ht; exact Z1k3 n h0 h1 Q hq
theorem Z1jg {l : By} {n : Int} (h : Lib.atoiAll l = .ok n) : n <= 9223372036854775807 := by
 unfold Lib.atoiAll at h
 split at h
 ·cases h
 ·dsimp only at h
  split at h
  ·cases h
  ·cases h
  ·split at h
   ·cases h
   ·split at h
    ·cases h
    ·cases h
     split <;> omega
set_option maxRecDepth 20000 in
set_option maxHeartbeats 2000000 in
theorem Z1jh (s : By) (hs : s.length <= 1000) (Q) (h1 : ∀ n, numB s = some n -> Q (RA.ret (.tup [I n, .v (.bool true)])) []) (h2 : numB s = none -> ∀ n, Q (RA.ret (.tup [I n, .v (.bool false)])) []) :
  CallA Tryz.prog 144 [tD s] [] Q := by
 obtain ⟨A, hA⟩ : ∃ A, A = ar := ⟨_, rfl⟩;refine Z5 Z0 hA Tryz.func144 rfl rfl rfl rfl rfl fun S hS => ?_;cbv;refine Z4 hS [.v (.string (bs s))] [] [] rfl rfl rfl rfl rfl rfl rfl rfl (by decide) trivial (Z1k4 (bs s) (by rw [Z1h9]; omega) _ (fun n hn => ?_) (fun n hn => ?_))
 ·have fin : ∀ b, (numB s = some n -> b = true) -> (numB s = none -> b = false) -> Q (RA.ret (.tup [I n, .v (.bool b)])) [] := fun b ht hf => by
   cases h : numB s with
   | none => rw [hf h]; exact h2 h n
   | some n' =>
    have e : n' = n := by have := (Z1h2 h).2.2.2.1; rw [Z1gy] at hn; rw [this] at hn; cases hn; rfl
    subst e;rw [ht h]; exact h1 n' h
  have f0 := fun h => fin false h (fun _ => rfl);obtain ⟨it, hit⟩ : ∃ it, it = Lib.itoa n := ⟨_, rfl⟩
  by_cases g1 : 0 <= n
  ·have c1 : A.cmp .geq n 0 = true := by subst hA; simp [ar, Z25]; omega
   by_cases g2 : s.length <= 3
   ·have c2 : A.cmp .leq (A.oi (A.slen (bs s))) 3 = true := by rw [Z1j9 hA]; subst hA; simp [ar, Z25]; omega
    have hz : Q (RA.ret (.tup [I n, .v (.bool (A.seq (bs it) (bs s)))])) [] := fin _ (fun h => by
     obtain ⟨-, -, e, -⟩ := Z1h2 h
     rw [yseq hA, hit]; exact decide_eq_true e) (fun h => by rw [yseq hA, hit]; exact decide_eq_false (Z1j4 h g1 g2))
    have kI := fun Q h => Z1h3 n it hit (by omega) (Z1jg hn) Q h;refine Z3 Z0 hA hS ?_;cbv;refine bmT c1 ?_;cbv;refine bmT c2 ?_;cbv;refine Zg hS (b := true) rfl rfl rfl rfl rfl rfl rfl rfl (fun _ => ⟨[], _, [I n], [], [], rfl, rfl, rfl, by decide, trivial, kI _ ?_⟩) (fun e => absurd rfl e);refine Z3 Z0 hA hS ?_;cbv;exact Z2 [] (by decide) Z9 (H' := []) (d' := .tup [I n, .v (.bool (A.seq (bs it) (bs s)))]) trivial rfl (Z1 hz)
   ·have c2 : A.cmp .leq (A.oi (A.slen (bs s))) 3 = false := by rw [Z1j9 hA]; subst hA; simp [ar, Z25]; omega
    have hz := f0 (fun h => absurd (Z1h2 h).2.2.2.2.2 g2);refine Z3 Z0 hA hS ?_;cbv;refine bmT c1 ?_;cbv;refine bmF c2 ?_;cbv;refine Zg (f := 0) hS rfl rfl rfl rfl rfl rfl rfl rfl (fun e => Bool.noConfusion e) (fun _ => ?_);refine Z3 Z0 hA hS ?_;cbv;exact Z2 [] (by decide) Z9 (H' := []) (d' := .tup [I n, .v (.bool false)]) trivial rfl (Z1 hz)
  ·have c1 : A.cmp .geq n 0 = false := by subst hA; simp [ar, Z25]; omega
   have hz := f0 (fun h => absurd (Z1h2 h).1 g1);refine Z3 Z0 hA hS ?_;cbv;refine bmF c1 ?_;cbv;refine Zg (f := 0) hS rfl rfl rfl rfl rfl rfl rfl rfl (fun e => Bool.noConfusion e) (fun _ => ?_);refine Z3 Z0 hA hS ?_;cbv;exact Z2 [] (by decide) Z9 (H' := []) (d' := .tup [I n, .v (.bool false)]) trivial rfl (Z1 hz)
 ·have hnn : numB s = none := by
   cases h : numB s with
   | none => rfl
   | some n' => exact absurd (Z1h2 h).2.2.2.1 (by have := hn n'; rwa [Z1gy] at this)
  have hz := h2 hnn n;refine Z3 Z0 hA hS ?_;cbv;refine Zg (f := 0) hS rfl rfl rfl rfl rfl rfl rfl rfl (fun e => Bool.noConfusion e) (fun _ => ?_);refine Z3 Z0 hA hS ?_;cbv;exact Z2 [] (by decide) Z9 (H' := []) (d' := .tup [I n, .v (.bool false)]) trivial rfl (Z1 hz)
end Go.Proofs.YthljpccegkmdnaaGreatDoor

namespace Go.Proofs.YthljpccegkmdnaaGreatDoor
open Go Go.Abs Go.Proofs Go.Batch
open Bn (Sh Tk Wk Z14v Z14z Z14x Fin)
open Go.ChangeShapes Go.WideShapes Go.RowKit
structure JFin (j : Jn) : Prop where
 f : j.first.length <= 1152921504606846976
 m : j.moves.length <= 1152921504606846976
section
variable {H : Type} {enc : TypeId × Value -> H} {W : World} {hk : KnowW W} {base : Nat} {spare : Nat -> Bool} {held : Bool}
set_option maxRecDepth 100000 in
theorem Zw2 {n : Nat} {cs : List Value} {x : DataW H × List MemPlace} (h : DataW.trod enc Tryz.prog W base spare held n 4 cs = some x) : ∃ b, RdL W hk cs (Zv b).cells := by
 obtain ⟨b, hb, -⟩ := DataW.trod_bool Tryz.underlying4 h
 cases hb
 exact ⟨b, RdL.one rfl (.v _ rfl)⟩
set_option maxRecDepth 100000 in
theorem Zp1 {n : Nat} {cs : List Value} {x : DataW H × List MemPlace} (h : DataW.trod enc Tryz.prog W base spare held n 31 cs = some x) : ∃ m : Mv, RdL W hk cs (mvD m).cells := by
 obtain ⟨xs, k, -, -, hl, hxl, hf⟩ := DataW.trod_struct Tryz.underlying31 h;have cc29 : Tryz.prog.cellsOf 31 = 5 := by kernel_rfl
 have cc27 : Tryz.prog.cellsOf 28 = 2 := by kernel_rfl
 have c3 : Tryz.prog.cellsOf 3 = 1 := Zj7;rw [cc29] at hl
 match cs, hl, xs, hxl with
 | [v0, v1, v2, v3, v4], _, [y0, y1, y2, y3], _ =>
  have g0 := hf 0 _ rfl;have g1 := hf 1 _ rfl;have g2 := hf 2 _ rfl;have g3 := hf 3 _ rfl;simp [c3, cc27] at g0 g1 g2 g3;obtain ⟨a, ha, -⟩ := DataW.trod_int Tryz.underlying3 g0;obtain ⟨b, hb, -⟩ := DataW.trod_int Tryz.underlying3 g1;obtain ⟨c, hc, -⟩ := DataW.trod_int Tryz.underlying3 g2;obtain ⟨lo, hi, hr⟩ := Ztn g3
  cases ha; cases hb; cases hc
  exact ⟨⟨a, b, c, lo, hi⟩, (((RdL.int a).app (RdL.int b)).app (RdL.int c)).app hr⟩
set_option maxRecDepth 100000 in
theorem Znl {n : Nat} {cs : List Value} {x : DataW H × List MemPlace} (h : DataW.trod enc Tryz.prog W base spare held n 25 cs = some x) (hw : Zld 25 x.1) : ∃ j : Jn, RdL W hk cs [I j.ins, .sl 1 (j.first.map Zv), .sl 5 (j.moves.map mvD)] /\ JFin j := by
 obtain ⟨xs, k, -, hx, hl, hxl, hf⟩ := DataW.trod_struct Tryz.underlying25 h;have cc25 : Tryz.prog.cellsOf 25 = 3 := by kernel_rfl
 have cc22 : Tryz.prog.cellsOf 22 = 1 := by kernel_rfl
 have cc23 : Tryz.prog.cellsOf 23 = 1 := by kernel_rfl
 have c3 : Tryz.prog.cellsOf 3 = 1 := Zj7;rw [cc25] at hl;subst hx
 match cs, hl, xs, hxl, hw with
 | [v0, v1, v2], _, [y0, y1, y2], _, hw =>
  have g0 := hf 0 _ rfl;have g1 := hf 1 _ rfl;have g2 := hf 2 _ rfl;simp [c3, cc22, cc23] at g0 g1 g2;obtain ⟨a, ha, -⟩ := DataW.trod_int Tryz.underlying3 g0;have hw1 : Zld 22 y1.1 := fun n hn => hw n (by
   simp only [DataW.weights, Tryz.underlying25]
   exact Zdp (j := 1) rfl rfl n hn)
  have hw2 : Zld 23 y2.1 := fun n hn => hw n (by
   simp only [DataW.weights, Tryz.underlying25]
   exact Zdp (j := 2) rfl rfl n hn)
  obtain ⟨v, l, hv, v1, v2, -, v4⟩ := Zle (e := 4) (sz := 1) Tryz.underlying22 (by kernel_rfl) (by decide) (of_decide_eq_true (by kernel_rfl)) Zv (fun _ => True) (fun n cs' x h _ => let ⟨w, hw⟩ := Zw2 (hk := hk) h; ⟨w, hw, trivial⟩) g1 hw1;obtain ⟨u, l', hu, u1, u2, -, u4⟩ := Zle (e := 31) (sz := 5) Tryz.underlying23 (by kernel_rfl) (by decide) (of_decide_eq_true (by kernel_rfl)) mvD (fun _ => True) (fun n cs' x h _ => let ⟨w, hw⟩ := Zp1 (hk := hk) h; ⟨w, hw, trivial⟩) g2 hw2
  cases ha; cases hv; cases hu
  have hb : reachBytes <= 1152921504606846976 := Nat.le_of_ble_eq_true rfl;exact ⟨⟨a, l, l'⟩, ((RdL.int a).app (RdL.one v1 v2)).app (RdL.one u1 u2), ⟨by show l.length <= _; omega, by show l'.length <= _; omega⟩⟩
theorem Zto {cs : List Value} {ds : List D} {v : Value} (h1 : RdL W hk cs ds) (hv : v = .agg cs.toArray) : VR (fzW W hk) mu0 (.agg ds) v := by
 subst hv;refine .cl _ _ (.agg _ _ (by simpa using h1.len) (fun i c v hc hv => ?_) (fun i v hv => ?_))
 ·obtain ⟨v', g1, g2, g3⟩ := h1.cel i c hc;have hv2 : cs[i]? = some v := by simpa using hv
  rw [hv2] at g1; cases g1; exact g3
 ·have hv2 : cs[i]? = some v := by simpa using hv
  have hi : i < ds.length := by rw [h1.len]; exact (List.getElem?_eq_some_iff.1 hv2).1
  obtain ⟨v', g1, g2, g3⟩ := h1.cel i _ (List.getElem?_eq_getElem hi);rw [hv2] at g1; cases g1; exact g2
set_option maxRecDepth 100000 in
theorem Znm {v : Value} {d : DataW H} {ps : List MemPlace} {b0 : Nat} (hval : Value.okWide Tryz.prog W .any b0 25 v) (h : DataW.Trod enc Tryz.prog W base spare held 25 v d ps) (hw : Zld 25 d) :
  ∃ j : Jn, JFin j /\ VR (fzW W hk) mu0 (.agg [I j.ins, .sl 1 (j.first.map Zv), .sl 5 (j.moves.map mvD)]) v := by
 obtain ⟨fuel, hf⟩ := h;obtain ⟨j, h1, h2⟩ := Znl hf hw;have ha : ∃ cs, v = .agg cs := by
  unfold Value.okWide at hval;rw [Tryz.underlying25] at hval;obtain ⟨cs, h, -⟩ := hval;exact ⟨cs, h⟩
 obtain ⟨cs, rfl⟩ := ha;exact ⟨j, h2, Zto h1 (by simp [Value.cells])⟩
end
theorem Z1ju (s : ByteArray) : ∃ t : Txt.By, s = Txt.bs t := ⟨s.data.toList, (Txt.bs_of s).symm⟩
section
variable {H : Type} {enc : TypeId × Value -> H} {W : World} {hk : KnowW W} {base b0 : Nat} {spare : Nat -> Bool} {held : Bool}
set_option maxRecDepth 100000 in
theorem Z1ji {v : Value} {d : DataW H} {ps : List MemPlace} (hval : Value.okWide Tryz.prog W .any b0 9 v) (h : DataW.Trod enc Tryz.prog W base spare held 9 v d ps) : ∃ t : Txt.By, VR (fzW W hk) mu0 (tD t) v := by
 obtain ⟨fuel, hf⟩ := h;obtain ⟨s, rfl⟩ := okWide_string Tryz.underlying9 hval;obtain ⟨t, ht⟩ := Z1ju s;exact ⟨t, by rw [ht]; exact .cl _ _ (.v _ rfl)⟩
set_option maxRecDepth 100000 in
theorem Z108 {v : Value} (hval : Value.okWide Tryz.prog W .any b0 3 v) : ∃ n : Int, VR (fzW W hk) mu0 (I n) v := by
 obtain ⟨n, rfl⟩ := okWide_int Tryz.underlying3 hval;exact ⟨n, .cl _ _ (.v _ rfl)⟩
set_option maxRecDepth 100000 in
theorem Z1jj {v : Value} {d : DataW H} {ps : List MemPlace} (hval : Value.okWide Tryz.prog W .any b0 5 v) (h : DataW.Trod enc Tryz.prog W base spare held 5 v d ps) : ∃ b : UInt8, VR (fzW W hk) mu0 (.v (.int .u8 (b.toNat : Int))) v := by
 obtain ⟨fuel, hf⟩ := h;obtain ⟨n, rfl⟩ := okWide_int Tryz.underlying5 hval;obtain ⟨m, hm, -, hwf⟩ := DataW.trod_int Tryz.underlying5 hf;simp [Value.cells] at hm;subst hm;have h1 : IntKind.u8.min <= n /\ n <= IntKind.u8.max := by simpa [Lit.wf] using hwf
 have h2 : IntKind.u8.min = 0 := by decide
 have h3 : IntKind.u8.max = 255 := by decide
 refine ⟨UInt8.ofNat n.toNat, ?_⟩;have e : ((UInt8.ofNat n.toNat).toNat : Int) = n := by rw [Txt.toNat_of (by omega)]; omega
 rw [e];exact .cl _ _ (.v _ rfl)
end
def Z1he : List (String × DataW Unit) := [("math/bits.deBruijn32tab", Rows.laid_math_bits_deBruijn32tab), ("math/bits.deBruijn64tab", Rows.laid_math_bits_deBruijn64tab), ("internal/strconv.uint64pow10", Rows.laid_internal_strconv_uint64pow10), ("unicode/utf8.acceptRanges", Rows.laid_unicode_utf8_acceptRanges), ("strconv.ErrRange", Rows.laid_strconv_ErrRange), ("strconv.ErrSyntax", Rows.laid_strconv_ErrSyntax), ("unicode/utf8.first", Rows.laid_unicode_utf8_first)]
theorem Z1hy {W : World} {n : String} {g : Nat} {cs : Array Value} (hg : Tryz.prog.globalNamed n = some g) (h : W.var? Tryz.prog n = some cs) : ∃ t fr, W.heap[g]? = some (.cells cs t fr) := by
 simp only [World.var?, hg, Option.bind_some] at h
 split at h
 ·rename_i cs' t fr he; cases h; exact ⟨t, fr, he⟩
 ·cases h
theorem Z1hz {W : World} {n : String} {g : Nat} {nm : String} {d : DataW Unit} (h : Lib.VarReads Tryz.prog W n (.iface nm d)) (hg : Tryz.prog.globalNamed n = some g) (ht : (Tryz.prog.globals[g]?).map (·.type) = some 207) : ∃ te pe t fr, W.heap[g]? = some (.cells #[.iface te pe] t fr) := by
 obtain ⟨g', t, cs, fuel, p, h1, h2, h3, h4⟩ := h;obtain rfl := Option.some.inj (hg.symm.trans h1);obtain rfl := Option.some.inj (ht.symm.trans h2);obtain ⟨f', u, v, hc, -, -⟩ := iface_of_trod Tryz.underlying207 h4;obtain ⟨t, fr, hb⟩ := Z1hy hg h3;refine ⟨u, v, t, fr, ?_⟩;rw [hb, <- hc]
set_option maxRecDepth 100000 in
theorem Z1k6 {W : World} (h : laidMetH Tryz.prog Z1he W) (hs : W.ShapedOpen Tryz.prog) : KnowW W := by
 have h' : laidMet Tryz.prog Z1he W := h;refine ⟨fun b p hp => ?_⟩
 match b, hp with
 | 1, hp =>
  cases hp
  obtain ⟨g, t, cs, fuel, p, h1, h2, h3, h4⟩ := Lib.laidMet.reads h' (n := "internal/strconv.uint64pow10") (d := Rows.laid_internal_strconv_uint64pow10) (.tail _ (.tail _ (.head _)));obtain rfl : g = 1 := Option.some.inj (h1.symm.trans (by kernel_rfl));obtain rfl : t = 313 := Option.some.inj (h2.symm.trans (by kernel_rfl));have := Lib.cells_of_tab (k := .u64) (zs := Lib.pow10Tab) Tryz.underlying313 Tryz.underlying149 (by kernel_rfl) (by kernel_rfl) h4;obtain ⟨t, fr, hb⟩ := Z1hy h1 h3;exact ⟨_, hb, t, fr, by rw [<- Array.toArray_toList (xs := cs), this]; rfl⟩
 | 2, hp =>
  cases hp
  have h0 : ((begin Tryz.prog (fun _ _ => 0) default).world.heap[2]?).bind Obj.row? = some (#[.int .i64 0], 3) := by kernel_rfl
  obtain ⟨m, hm⟩ := cell_of_shapedOpen_int hs (of_decide_eq_true (by kernel_rfl)) h0 rfl (by kernel_rfl) (by kernel_rfl) Tryz.underlying3;obtain ⟨cs, hh, hz, -⟩ := hs.1 2 #[.int .i64 0] 3 (of_decide_eq_true (by kernel_rfl)) h0;refine ⟨_, hh, m, 3, (0, 0), ?_⟩;have hz1 : cs.size = 1 := hz;have hc : cs[0]? = some (.int .i64 m) := by simpa [World.cell?, hh] using hm
  have : cs = #[.int .i64 m] := by
   apply Array.ext_getElem?
   intro i
   match i with
   | 0 => rw [hc]; rfl
   | i + 1 => rw [Array.getElem?_eq_none (by omega), Array.getElem?_eq_none (by simp)]
  rw [this]
 | 3, hp =>
  cases hp
  obtain ⟨te, pe, t, fr, hb⟩ := Z1hz (Lib.laidMet.reads h' (n := "strconv.ErrSyntax") (d := Rows.laid_strconv_ErrSyntax) (.tail _ (.tail _ (.tail _ (.tail _ (.tail _ (.head _))))))) (g := 3) (by kernel_rfl) (by kernel_rfl);exact ⟨_, hb, te, pe, t, fr, rfl⟩
 | 4, hp =>
  cases hp
  obtain ⟨te, pe, t, fr, hb⟩ := Z1hz (Lib.laidMet.reads h' (n := "strconv.ErrRange") (d := Rows.laid_strconv_ErrRange) (.tail _ (.tail _ (.tail _ (.tail _ (.head _)))))) (g := 4) (by kernel_rfl) (by kernel_rfl);exact ⟨_, hb, te, pe, t, fr, rfl⟩
set_option maxRecDepth 100000 in
theorem Z1ii {fnum : FuncId} (walk : ∀ (j : Jn) (FL ML : List D) (_ : FL = j.first.map Zv) (_ : ML = j.moves.map mvD) (_ : j.first.length <= 9223372036854775807) (_ : j.moves.length <= 9223372036854775807) (t : Txt.By) (L : List D) (nums : List Int) (_ : L = nums.map I) (_ : L.length <= 9223372036854775807) (a b z : Int) (c : UInt8) (_ : z = (c.toNat : Int)) (Q), Q (RA.ret (.v (.bool true))) [] ->
  CallA Tryz.prog fnum [.agg [I j.ins, .sl 1 FL, .sl 5 ML], tD t, .sl 1 L, I a, I b, .v (.int .u8 z)] [] Q) : Zlf fnum [25, 9, 44, 3, 3, 5] := by
 intro H enc W hk base vs ds p hA hval hlite;obtain ⟨v0, vs, d0, ds', p0, q0, rfl, rfl, rfl, h0, hA⟩ := trodAll_cons hA;obtain ⟨v1, vs, d1, ds', p1, q1, rfl, rfl, rfl, h1, hA⟩ := trodAll_cons hA;obtain ⟨v2, vs, d2, ds', p2, q2, rfl, rfl, rfl, h2, hA⟩ := trodAll_cons hA;obtain ⟨v3, vs, d3, ds', p3, q3, rfl, rfl, rfl, h3, hA⟩ := trodAll_cons hA;obtain ⟨v4, vs, d4, ds', p4, q4, rfl, rfl, rfl, h4, hA⟩ := trodAll_cons hA;obtain ⟨v5, vs, d5, ds', p5, q5, rfl, rfl, rfl, h5, hA⟩ := trodAll_cons hA;obtain ⟨rfl, rfl, rfl⟩ := trodAll_nil hA;obtain ⟨j, hj, k0⟩ := Znm (hk := hk) (hval 0 25 v0 rfl rfl) h0 (hlite 0 25 d0 rfl rfl);obtain ⟨t, k1⟩ := Z1ji (hk := hk) (hval 1 9 v1 rfl rfl) h1;obtain ⟨n2, hl2, k2⟩ := Zvu (hk := hk) (hval 2 44 v2 rfl rfl) h2;obtain ⟨a, k3⟩ := Z108 (hk := hk) (hval 3 3 v3 rfl rfl);obtain ⟨b, k4⟩ := Z108 (hk := hk) (hval 4 3 v4 rfl rfl);obtain ⟨c, k5⟩ := Z1jj (hk := hk) (hval 5 5 v5 rfl rfl) h5;have f1 := hj.f;have f2 := hj.m;exact ⟨[.agg [I j.ins, .sl 1 (j.first.map Zv), .sl 5 (j.moves.map mvD)], tD t, .sl 1 (n2.map I), I a, I b, .v (.int .u8 (c.toNat : Int))], rfl, fun i d v hd hv => by
  match i, hd, hv with
  | 0, hd, hv => simp at hd hv; subst hd; subst hv; exact k0
  | 1, hd, hv => simp at hd hv; subst hd; subst hv; exact k1
  | 2, hd, hv => simp at hd hv; subst hd; subst hv; exact k2
  | 3, hd, hv => simp at hd hv; subst hd; subst hv; exact k3
  | 4, hd, hv => simp at hd hv; subst hd; subst hv; exact k4
  | 5, hd, hv => simp at hd hv; subst hd; subst hv; exact k5
  | i + 6, hd, hv => simp at hd, fun Q hq => walk j _ _ rfl rfl (by omega) (by omega) t _ n2 rfl hl2 a b _ c rfl Q hq⟩
set_option maxRecDepth 100000 in
theorem Z1kn {fnum : FuncId} (walk : ∀ (L : List D) (nums : List Int) (_ : L = nums.map I) (_ : L.length <= 9223372036854775807) (t : Txt.By) (Q), Q (RA.ret (.v (.bool true))) [] -> CallA Tryz.prog fnum [.sl 1 L, tD t] [] Q) : Zlf fnum [44, 9] := by
 intro H enc W hk base vs ds p hA hval hlite;obtain ⟨v0, vs, d0, ds', p0, q0, rfl, rfl, rfl, h0, hA⟩ := trodAll_cons hA;obtain ⟨v1, vs, d1, ds', p1, q1, rfl, rfl, rfl, h1, hA⟩ := trodAll_cons hA;obtain ⟨rfl, rfl, rfl⟩ := trodAll_nil hA;obtain ⟨n2, hl2, k0⟩ := Zvu (hk := hk) (hval 0 44 v0 rfl rfl) h0;obtain ⟨t, k1⟩ := Z1ji (hk := hk) (hval 1 9 v1 rfl rfl) h1;exact ⟨[.sl 1 (n2.map I), tD t], rfl, fun i d v hd hv => by
  match i, hd, hv with
  | 0, hd, hv => simp at hd hv; subst hd; subst hv; exact k0
  | 1, hd, hv => simp at hd hv; subst hd; subst hv; exact k1
  | i + 2, hd, hv => simp at hd, fun Q hq => walk _ n2 rfl hl2 t Q hq⟩
theorem Z1hp {H : Type} {enc : TypeId × Value -> H} {a : Assume} {C : Checked} {os : Os} {f : FuncId} {fn : Func} {s : ChangeSpec} {conds : List PathCond} {apart fresh handsOn again : Bool} {X : World -> Array Value -> Prop}
  (hX : ∀ (w w' : World) (args : Array Value), w.heap = w'.heap -> X w args -> X w' args)
  (own : ownKnob C.prog.godebug = none) (started : os.Started) (noInit : C.prog.inits.idxOf? f = none) (hfn : C.prog.funcs[f]? = some fn)
  (witness : ∃ (w : World) (tape : Tape) (i : Input), w.os = os /\ (w.forCall tape i).Shaped C.prog /\ i.vars = [] /\ Input.okWide C.prog (w.forCall tape i) .any w.heap.size f i /\
   ((s.pre enc C.prog fn conds apart (w.forCall tape i).memory i.args /\ X (w.forCall tape i).memory i.args) /\ sizedMet enc C.prog fn (OpenSpec.ofChange s) apart (w.forCall tape i).memory i.args) /\ a.holds C.prog (lone (Frame.enter C.prog f i.args .normal) [] (w.forCall tape i)))
  (contract : ∀ (W : World) (base : Nat) (args : Array Value) (ds gs : List (DataW H)) (before : List MemPlace),
   (∀ (j : Nat) t v, fn.params[j]? = some t -> args[j]? = some v -> Value.okWide C.prog W .any base t v) ->
   DataW.Whole enc C.prog fn.params.toList s.vars apart W args.toList ds gs before ->
   (DataW.weightsEach C.prog (fn.params.toList ++ s.plain.varTypes C.prog) (ds ++ gs)).all (· <= reachBytes) = true -> X W args -> W.ShapedOpen C.prog ->
   Calls C.prog f args W fun e W' => ∃ v, e = .returned v /\ s.post enc C.prog fn apart fresh handsOn again W args v W') :
  ReturnsInHanded a C os f .any (fun w args => (s.pre enc C.prog fn conds apart w args /\ X w args) /\ sizedMet enc C.prog fn (OpenSpec.ofChange s) apart w args) (s.post enc C.prog fn apart fresh handsOn again) := by
 refine returnsInHanded_of_calls own started noInit witness ?_;intro w tape i _ hsh _ hok hpre _;obtain ⟨_, _, _, fn', hfn', _, _, _, _, hval⟩ := hok;have e : fn' = fn := Option.some.inj (hfn'.symm.trans hfn);subst e;obtain ⟨⟨⟨ds, gs, before, hw, hc⟩, hx⟩, hz⟩ := hpre;have hw' := DataW.Whole.of_heap (w' := w.forCall tape i) (by rfl) hw;refine (contract (w.forCall tape i) w.heap.size i.args ds gs before hval hw' (hz.weights hw) (hX _ _ _ (by rfl) hx) hsh).mono fun e W' ⟨v, he, hp⟩ => ?_;subst he;exact ChangeSpec.post_blind hp
end Go.Proofs.YthljpccegkmdnaaGreatDoor

namespace Go.Proofs.YthljpccegkmdnaaGreatDoor
open Go Go.Abs Go.Proofs Go.Batch Go.Txt
section
variable {A : Ar} (hA : A = ar)
include hA
theorem ycl (op : BinOp) (s : By) (n : Int) : A.cmp op (A.oi (A.slen (bs s))) n = Z25 op (s.length : Int) n := by subst hA; rfl
theorem ycr (op : BinOp) (s : By) (n : Int) : A.cmp op n (A.oi (A.slen (bs s))) = Z25 op n (s.length : Int) := by subst hA; rfl
theorem Z1im {s : By} {i : Int} {k : Nat} (h : IsI i k) (hk : k < s.length) : A.inb i (A.slen (bs s)) := by
 subst hA; have := h.eq; exact ⟨by omega, by show i < ((bs s).size : Int); rw [Z1h9]; omega⟩
theorem Z1jo {s : By} {i : Int} {k : Nat} {c : UInt8} (h : IsI i k) (hc : s[k]? = some c) : A.sget (bs s) (A.tn i) = (c.toNat : Int) := by
 subst hA; rw [h.eq];show ((Zqy (bs s) ((k : Int).toNat) : Nat) : Int) = _;have : (bs s).data[k]? = some c := by simpa [bs] using hc
 simp [Zqy, this]
theorem yc8 (op : BinOp) {s : By} {i : Int} {k : Nat} {c : UInt8} (h : IsI i k) (hc : s[k]? = some c) (n : Int) : A.cmp op (A.sget (bs s) (A.tn i)) n = Z25 op (c.toNat : Int) n := by
 rw [Z1jo hA h hc]; subst hA; rfl
theorem Z1k7 {x : Int} {c : UInt8} (e : x = (c.toNat : Int)) (h : 48 <= c.toNat) : A.wrap .i64 (A.wrap .u8 (A.sub x 48)) = dgv c := by
 subst hA; subst e;have hc := c.toNat_lt;have h1 : IntKind.u8.wrap ((c.toNat : Int) - 48) = dgv c := by
  obtain ⟨k, hk⟩ : ∃ k : Nat, c.toNat = 48 + k := ⟨c.toNat - 48, by omega⟩;unfold dgv; rw [hk, IntKind.wrap_u8]; omega
 show IntKind.i64.wrap (IntKind.u8.wrap ((c.toNat : Int) - 48)) = _;rw [h1]; exact Zxl (by unfold dgv; omega)
end
def fold (l : By) : Int := l.foldl (fun n c => 10 * n + dgv c) 0
theorem Z1iv (l : By) (c : UInt8) : fold (l ++ [c]) = 10 * fold l + dgv c := by simp [fold]
theorem Z1ja {s : By} (h1 : 1 <= s.length) (h2 : s.length <= 3) (hz : ¬ (s[0]? = some 48 /\ 1 < s.length)) (hd : ∀ c ∈ s, dig c = true) : numB s = some (fold s) := by
 match s, h1, h2 with
 | [a], _, _ => simp [numB, hd, fold]
 | [a, b], _, _ =>
  have : a ≠ 48 := fun e => hz (by simp [e]);simp [numB, hd, fold, this]
 | [a, b, c], _, _ =>
  have : a ≠ 48 := fun e => hz (by simp [e]);simp [numB, hd, fold, this]
theorem Z1i3 {s : By} {n : Int} (h : numB s = some n) : (∀ c ∈ s, dig c = true) /\ ¬ (s[0]? = some 48 /\ 1 < s.length) := by
 match s, h with
 | [a], h =>
  simp only [numB] at h
  split at h
  ·rename_i ha; simpa using ha
  ·cases h
 | [a, b], h =>
  simp only [numB] at h
  split at h
  ·rename_i ha; simp [ha]
  ·cases h
 | [a, b, c], h =>
  simp only [numB] at h
  split at h
  ·rename_i ha; simp [ha]
  ·cases h
theorem Z1jb : ∀ (l : By), (∀ c ∈ l, dig c = true) -> l.length <= 3 -> 0 <= fold l /\ fold l <= 999
 | [], _, _ => by simp [fold]
 | [a], h, _ => by have := Z1gp.1 (h a (by simp)); simp [fold, dgv]; omega
 | [a, b], h, _ => by have := Z1gp.1 (h a (by simp)); have := Z1gp.1 (h b (by simp)); simp [fold, dgv]; omega
 | [a, b, c], h, _ => by have := Z1gp.1 (h a (by simp)); have := Z1gp.1 (h b (by simp)); have := Z1gp.1 (h c (by simp)); simp [fold, dgv]; omega
 | _ :: _ :: _ :: _ :: _, _, h => by simp at h
set_option maxRecDepth 20000 in
set_option maxHeartbeats 2000000 in
theorem Z1jk (s : By) (hs : s.length <= 1000) (Q) (h1 : ∀ n, numB s = some n -> Q (RA.ret (.tup [I n, .v (.bool true)])) []) (h2 : numB s = none -> ∀ n, Q (RA.ret (.tup [I n, .v (.bool false)])) []) :
  CallA Tryz.prog 145 [tD s] [] Q := by
 obtain ⟨A, hA⟩ : ∃ A, A = ar := ⟨_, rfl⟩;have bad : ∀ x, (∀ n, numB s ≠ some n) -> Q (RA.ret (.tup [I x, .v (.bool false)])) [] := fun x h => h2 (by
  cases e : numB s with
  | none => rfl
  | some n => exact absurd e (h n)) x
 refine Z38 Z0 hA [3] Tryz.func145 rfl rfl rfl rfl rfl fun S hS => ?_
 by_cases g1 : s.length < 1
 ·have c1 : A.cmp .lss (A.oi (A.slen (bs s))) 1 = true := by rw [ycl hA]; simp [Z25]; omega
  have hz := bad 0 (fun n h => by have := (Z1h2 h).2.2.2.2.1; omega);cbv;refine bmT c1 ?_;cbv;exact Z2 [] (by decide) Z9 (H' := []) (d' := .tup [I 0, .v (.bool false)]) trivial rfl (Z1 hz)
 have c1 : A.cmp .lss (A.oi (A.slen (bs s))) 1 = false := by rw [ycl hA]; simp [Z25]; omega
 by_cases g2 : 3 < s.length
 ·have c2 : A.cmp .gtr (A.oi (A.slen (bs s))) 3 = true := by rw [ycl hA]; simp [Z25]; omega
  have hz := bad 0 (fun n h => by have := (Z1h2 h).2.2.2.2.2; omega);cbv;refine bmF c1 ?_;cbv;refine bmT c2 ?_;cbv;exact Z2 [] (by decide) Z9 (H' := []) (d' := .tup [I 0, .v (.bool false)]) trivial rfl (Z1 hz)
 have c2 : A.cmp .gtr (A.oi (A.slen (bs s))) 3 = false := by rw [ycl hA]; simp [Z25]; omega
 obtain ⟨a, ha⟩ : ∃ a, s[0]? = some a := ⟨_, List.getElem?_eq_getElem (by omega)⟩;have i0 : A.inb 0 (A.slen (bs s)) := Z1im hA (k := 0) ⟨rfl⟩ (by omega);have l1 : ∀ b, A.cmp .eql (A.sget (bs s) (A.tn 0)) 48 = b -> b = decide (a = 48) := fun b h => by
  rw [yc8 hA .eql (i := 0) (k := 0) ⟨rfl⟩ ha] at h;rw [<- h]; simp only [Z25]
  by_cases e : a = 48
  ·subst e; rfl
  ·have : a.toNat ≠ 48 := Z1hm.1 e;simp [e]; omega
 have l2 : ∀ b, A.cmp .gtr (A.oi (A.slen (bs s))) 1 = b -> b = decide (1 < s.length) := fun b h => by
  rw [ycl hA] at h;rw [<- h]; simp [Z25]; omega
 have hz0 := fun (e1 : a = 48) (e2 : 1 < s.length) => bad 0 (fun n h => (Z1i3 h).2 ⟨by rw [ha, e1], e2⟩);have h10 : A.fits .i64 (A.add 0 1) := by subst hA; exact Zxl (by decide)
 cbv;refine bmF c1 ?_;cbv;refine bmF c2 ?_;cbv;refine ⟨i0, ?_⟩;refine' bm2 (S := S) (α := Unit) (fun _ => { env := [(0, tD s)], H := [], nt := 49, dfs := [] }) (fun _ => ¬ (a = 48 /\ 1 < s.length)) (fun rest c => ?h1) (fun rest c => ?h2) ?h3
 case h1 =>
  have e1 : a = 48 := of_decide_eq_true (l1 _ c).symm;cbv;refine bm (fun c4 => ?_) (fun c4 => ?_)
  ·have hz := hz0 e1 (of_decide_eq_true (l2 _ c4).symm);cbv;exact Z2 [] (by decide) Z9 (H' := []) (d' := .tup [I 0, .v (.bool false)]) trivial rfl (Z1 hz)
  ·have e2 := of_decide_eq_false (l2 _ c4).symm;cbv;exact Zof hS rest () (fun h => e2 h.2) (Zf [] ⟨by decide, Z9, trivial, ⟨rfl, trivial⟩, rfl, rfl⟩)
 case h2 =>
  have e1 := of_decide_eq_false (l1 _ c).symm;cbv;exact Zof hS rest () (fun h => e1 h.1) (Zf [] ⟨by decide, Z9, trivial, ⟨rfl, trivial⟩, rfl, rfl⟩)
 case h3 =>
  rintro - hn48;refine Zb hS (Z2w Z0 hA hS [] ?_);cbv;refine Zb hS ?_;refine Za (α := Int × Nat × Int) (fun q => { env := [(0, tD s), (4, I q.2.2), (5, I q.1)], H := [], nt := 49, dfs := [] })
   (fun q => s.length - q.2.1) (fun q => q.2.1 <= s.length /\ IsI q.1 q.2.1 /\ q.2.2 = fold (s.take q.2.1) /\ ∀ c ∈ s.take q.2.1, dig c = true) (0, 0, 0) ⟨Nat.zero_le _, ⟨rfl⟩, by simp [fold], by simp⟩ ?_ ?_
  ·exact Zf [] ⟨by decide, Z9, trivial, ⟨rfl, rfl, rfl, trivial⟩, rfl, rfl⟩
  rintro ⟨i, k, n⟩ ⟨u1, u2, u3, u4⟩;dsimp only at u1 u2 u3 u4;refine Z2w Z0 hA hS [] ?_
  by_cases hk : k < s.length
  ·have d1 : A.cmp .lss i (A.oi (A.slen (bs s))) = true := by rw [ycr hA, u2.eq]; simp [Z25]; omega
   obtain ⟨c, hc⟩ : ∃ c, s[k]? = some c := ⟨_, List.getElem?_eq_getElem hk⟩;have ii := Z1im hA u2 hk;have hts : s.take (k + 1) = s.take k ++ [c] := by rw [List.take_add_one, hc]; rfl
   have hall : dig c = true -> ∀ x ∈ s.take (k + 1), dig x = true := fun hd x hx => by
    rw [hts, List.mem_append] at hx;rcases hx with hx | hx
    ·exact u4 x hx
    ·simp at hx; subst hx; exact hd
   have hbd := Z1jb (s.take k) u4 (by rw [List.length_take]; omega);rw [<- u3] at hbd;have hcs : c ∈ s := List.mem_of_getElem? hc
   by_cases g3 : c.toNat < 48
   ·have d2 : A.cmp .lss (A.sget (bs s) (A.tn i)) 48 = true := by rw [yc8 hA .lss u2 hc]; simp [Z25]; omega
    have hz := bad 0 (fun n h => by have := Z1gp.1 ((Z1i3 h).1 c hcs); omega);clear hall;cbv;refine bmT d1 ?_;cbv;refine ⟨ii, ?_⟩;refine bmT d2 ?_;cbv;refine Z7 ?_;cbv;exact Z2 [] (by decide) Z9 (H' := []) (d' := .tup [I 0, .v (.bool false)]) trivial rfl (Z1 hz)
   have d2 : A.cmp .lss (A.sget (bs s) (A.tn i)) 48 = false := by rw [yc8 hA .lss u2 hc]; simp [Z25]; omega
   by_cases g4 : 57 < c.toNat
   ·have d3 : A.cmp .gtr (A.sget (bs s) (A.tn i)) 57 = true := by rw [yc8 hA .gtr u2 hc]; simp [Z25]; omega
    have hz := bad 0 (fun n h => by have := Z1gp.1 ((Z1i3 h).1 c hcs); omega);clear hall;cbv;refine bmT d1 ?_;cbv;refine ⟨ii, ?_⟩;refine bmF d2 ?_;cbv;refine ⟨ii, ?_⟩;refine bmT d3 ?_;cbv;refine Z7 ?_;cbv;exact Z2 [] (by decide) Z9 (H' := []) (d' := .tup [I 0, .v (.bool false)]) trivial rfl (Z1 hz)
   have d3 : A.cmp .gtr (A.sget (bs s) (A.tn i)) 57 = false := by rw [yc8 hA .gtr u2 hc]; simp [Z25]; omega
   have hdg : dig c = true := Z1gp.2 ⟨by omega, by omega⟩;have hw := Z1k7 hA (Z1jo hA u2 hc) (by omega : 48 <= c.toNat);have hval : A.add (A.mul 10 n) (A.wrap .i64 (A.wrap .u8 (A.sub (A.sget (bs s) (A.tn i)) 48))) = fold (s.take (k + 1)) := by
    rw [hw, hts, Z1iv, <- u3]; subst hA; rfl
   have f1 : A.fits .i64 (A.mul 10 n) := Z14 hA (xmul hA _ _) (by omega);have f2 : A.fits .i64 (A.add (A.mul 10 n) (A.wrap .i64 (A.wrap .u8 (A.sub (A.sget (bs s) (A.tn i)) 48)))) := Z14 hA (m := 10 * n + dgv c) (by rw [Z58 hA, xmul hA, hw]) (by unfold dgv; omega);have hf1 := Zy hA u2 (by omega);have hu2 := Zz hA u2;have hms : s.length - (k + 1) < s.length - k := by omega
   have hall' := hall hdg;clear hall;cbv;refine bmT d1 ?_;cbv;refine ⟨ii, ?_⟩;refine bmF d2 ?_;cbv;refine ⟨ii, ?_⟩;refine bmF d3 ?_;cbv;refine ⟨f1, ii, f2, hf1, ?_⟩;refine Z8 (A.add i 1, k + 1, A.add (A.mul 10 n) (A.wrap .i64 (A.wrap .u8 (A.sub (A.sget (bs s) (A.tn i)) 48)))) [] ⟨hk, hu2, hval, hall'⟩ hms ?_;exact ⟨by decide, Z9, trivial, ⟨rfl, rfl, rfl, trivial⟩, rfl, rfl⟩
  ·have d1 : A.cmp .lss i (A.oi (A.slen (bs s))) = false := by rw [ycr hA, u2.eq]; simp [Z25]; omega
   have e : s.take k = s := List.take_of_length_le (by omega);rw [e] at u3 u4;have hz : Q (RA.ret (.tup [I n, .v (.bool true)])) [] := by
    rw [u3]; exact h1 _ (Z1ja (by omega) (by omega) (fun h => hn48 ⟨by rw [ha] at h; exact Option.some.inj h.1, h.2⟩) u4)
   cbv;refine bmF d1 ?_;cbv;refine Z7 ?_;cbv;exact Z2 [] (by decide) Z9 (H' := []) (d' := .tup [I n, .v (.bool true)]) trivial rfl (Z1 hz)
end Go.Proofs.YthljpccegkmdnaaGreatDoor

namespace Go.Proofs.YthljpccegkmdnaaGreatDoor
open Go Go.Abs Go.Proofs Go.Batch Go.Txt
section
variable {A : Ar} (hA : A = ar)
include hA
theorem Z1i7 {s : By} {x y : Int} {f k : Nat} (hx : IsI x f) (hy : IsI y k) (hfk : f <= k) (hk : k <= s.length) : A.ssubOK (bs s) x y /\ A.ssub (bs s) x y = bs ((s.drop f).take (k - f)) := by
 subst hA;have e1 := hx.eq;have e2 := hy.eq;subst e1 e2;refine ⟨⟨by omega, by omega, by show (k : Int) <= ((bs s).size : Int); rw [Z1h9]; omega⟩, ?_⟩;show (bs s).extract ((f : Int).toNat) ((k : Int).toNat) = _;rw [Int.toNat_natCast, Int.toNat_natCast, <- bs_of ((bs s).extract f k), Lib.extract_data];simp [bs, List.extract, List.take_drop]
end
structure SplitAt (c : UInt8) (s : By) (k f : Nat) (L : List D) : Prop where
 le : k <= s.length + 1
 out : ∃ done, L = done.map tD /\ ((k <= s.length /\ f <= k /\ Z1gn c s = done ++ Z1gn c (s.drop f) /\ c ∉ (s.drop f).take (k - f)) ∨ (k = s.length + 1 /\ Z1gn c s = done))
theorem SplitAt.start (c : UInt8) (s : By) : SplitAt c s 0 0 [] := ⟨by omega, [], rfl, .inl ⟨by omega, by omega, by simp, by simp⟩⟩
theorem SplitAt.cut {c : UInt8} {s : By} {k f : Nat} {L : List D} (h : SplitAt c s k f L) (hk : k < s.length) (hc : s[k]? = some c) : f <= k /\ SplitAt c s (k + 1) (k + 1) (L ++ [tD ((s.drop f).take (k - f))]) := by
 obtain ⟨done, rfl, ⟨h1, h2, h3, h4⟩ | ⟨h1, -⟩⟩ := h.out
 ·have e : s.drop f = (s.drop f).take (k - f) ++ c :: s.drop (k + 1) := by
   have h5 := (List.take_append_drop (k - f) (s.drop f)).symm;rw [List.drop_drop, show f + (k - f) = k by omega] at h5;have h6 : s.drop k = c :: s.drop (k + 1) := by
    rw [List.drop_eq_getElem_cons hk];rw [List.getElem?_eq_getElem hk] at hc;rw [Option.some.inj hc]
   rw [h6] at h5; exact h5
  refine ⟨h2, by omega, done ++ [(s.drop f).take (k - f)], by simp, .inl ⟨by omega, Nat.le_refl _, ?_, by simp⟩⟩;rw [h3]
  conv => lhs; rw [e]
  rw [Z1hj h4]; simp
 ·omega
theorem SplitAt.on {c : UInt8} {s : By} {k f : Nat} {L : List D} (h : SplitAt c s k f L) (hk : k < s.length) {x : UInt8} (hc : s[k]? = some x) (hx : x ≠ c) : SplitAt c s (k + 1) f L := by
 obtain ⟨done, rfl, ⟨h1, h2, h3, h4⟩ | ⟨h1, -⟩⟩ := h.out
 ·refine ⟨by omega, done, rfl, .inl ⟨by omega, by omega, h3, ?_⟩⟩;rw [show k + 1 - f = (k - f) + 1 by omega, List.take_add_one, List.getElem?_drop, show f + (k - f) = k by omega, hc];simp only [Option.toList_some, List.mem_append, List.mem_singleton, not_or];exact ⟨h4, fun e => hx e.symm⟩
 ·omega
theorem SplitAt.last {c : UInt8} {s : By} {k f : Nat} {L : List D} (h : SplitAt c s k f L) (hk : k = s.length) : f <= k /\ SplitAt c s (k + 1) (k + 1) (L ++ [tD ((s.drop f).take (k - f))]) := by
 obtain ⟨done, rfl, ⟨h1, h2, h3, h4⟩ | ⟨h1, -⟩⟩ := h.out
 ·refine ⟨h2, by omega, done ++ [(s.drop f).take (k - f)], by simp, .inr ⟨by omega, ?_⟩⟩;have e : (s.drop f).take (k - f) = s.drop f := List.take_of_length_le (by simp; omega);rw [h3, e, Z1hi (by rw [<- e]; exact h4)]
 ·omega
theorem SplitAt.fin {c : UInt8} {s : By} {k f : Nat} {L : List D} (h : SplitAt c s k f L) (hk : s.length < k) : L = (Z1gn c s).map tD := by
 obtain ⟨done, rfl, ⟨h1, -⟩ | ⟨-, h3⟩⟩ := h.out
 ·omega
 ·rw [h3]
set_option maxRecDepth 20000 in
set_option maxHeartbeats 2000000 in
theorem Z1hq (s : By) (hs : s.length <= 1000) (c : UInt8) (z : Int) (hz : z = (c.toNat : Int)) (Q) (hq : ∀ L, L = (Z1gn c s).map tD -> Q (RA.ret (.sl 1 L)) []) :
  CallA Tryz.prog 110 [tD s, .v (.int .u8 z)] [] Q := by
 obtain ⟨A, hA⟩ : ∃ A, A = ar := ⟨_, rfl⟩;refine Z5 Z0 hA Tryz.func110 rfl rfl rfl rfl rfl fun S hS => ?_;cbv;refine Zb hS ?_;refine Za (α := (Int × Nat) × (Int × Nat) × List D × Nat) (fun q => { env := [(0, tD s), (1, .v (.int .u8 z)), (5, .o 0 1 q.2.2.2), (6, I q.2.1.1), (7, I q.1.1)], H := [.els 1 q.2.2.1], nt := 35, dfs := [] })
  (fun q => s.length + 1 - q.1.2) (fun q => IsI q.1.1 q.1.2 /\ IsI q.2.1.1 q.2.1.2 /\ SplitAt c s q.1.2 q.2.1.2 q.2.2.1 /\ q.2.2.1.length = q.2.2.2 /\ q.2.2.2 <= q.1.2) ((0, 0), (0, 0), [], 0) ⟨⟨rfl⟩, ⟨rfl⟩, SplitAt.start c s, rfl, Nat.le_refl _⟩ ?_ ?_
 ·refine Z2a 5 1 rfl ?_;exact Zf [0] ⟨by decide, Z9, ⟨rfl, trivial⟩, ⟨rfl, rfl, rfl, rfl, rfl, trivial⟩, rfl, rfl⟩
 rintro ⟨⟨i, k⟩, ⟨fr, f⟩, L, n⟩ ⟨u1, u2, u3, u4, u5⟩;dsimp only at u1 u2 u3 u4 u5;have hkl := u3.le;refine Zi Z0 hA hS ?_
 by_cases hk : s.length < k
 ·have d1 : A.cmp .leq i (A.oi (A.slen (bs s))) = false := by rw [ycr hA, u1.eq]; simp [Z25]; omega
  have hz := hq L (u3.fin hk);cbv;refine bmF d1 ?_;cbv;refine Z7 ?_;cbv;refine Z1w [0] ?_;cbv;exact ⟨by cases L <;> exact u4.symm, Z2 [] (by decide) Z9 (H' := []) (d' := .sl 1 L) trivial rfl (Z1 hz)⟩
 have d1 : A.cmp .leq i (A.oi (A.slen (bs s))) = true := by rw [ycr hA, u1.eq]; simp [Z25]; omega
 by_cases hl : k = s.length
 ·have d2 : A.cmp .eql i (A.oi (A.slen (bs s))) = true := by rw [ycr hA, u1.eq]; simp [Z25]; omega
  obtain ⟨hfk, hnx⟩ := u3.last hl;obtain ⟨o1, o2⟩ := Z1i7 (s := s) hA u2 u1 hfk (by omega);have hL2 : A.app L [.v (.string (A.ssub (bs s) fr i))] = L ++ [tD ((s.drop f).take (k - f))] := by rw [o2]; subst hA; rfl
  rw [<- hL2] at hnx;have hL3 : (A.app L [.v (.string (A.ssub (bs s) fr i))]).length = A.addN n 1 := by rw [hL2]; subst hA; simp [ar, u4]
  have hn1 : A.addN n 1 <= k + 1 := by subst hA; show n + 1 <= _; omega
  have e1 := Ze hA u4;have e2 : A.eqN 1 (A.len [.v (.string (A.ssub (bs s) fr i))]) := by subst hA; rfl
  have e3 : A.room (A.addN n 1) 16 := Z27 hA (by omega) (by omega);have hf1 := Zy hA u1 (by omega);have hu1 := Zz hA u1;have hms : s.length + 1 - (k + 1) < s.length + 1 - k := by omega
  cbv;refine bmT d1 ?_;cbv;refine bmT d2 ?_;cbv;refine ⟨o1, e1, e2, e3, hf1, hf1, ?_⟩;refine Z8 ((A.add i 1, k + 1), (A.add i 1, k + 1), A.app L [.v (.string (A.ssub (bs s) fr i))], A.addN n 1) [2] ⟨hu1, hu1, hnx, hL3, hn1⟩ hms ?_;exact ⟨by decide, Z9, ⟨rfl, trivial⟩, ⟨rfl, rfl, rfl, rfl, rfl, trivial⟩, rfl, rfl⟩
 have d2 : A.cmp .eql i (A.oi (A.slen (bs s))) = false := by rw [ycr hA, u1.eq]; simp [Z25]; omega
 have hk2 : k < s.length := by omega
 obtain ⟨x, hx⟩ : ∃ x, s[k]? = some x := ⟨_, List.getElem?_eq_getElem hk2⟩;have ii := Z1im hA u1 hk2
 by_cases hc : x = c
 ·subst hc;have d3 : A.cmp .eql (A.sget (bs s) (A.tn i)) z = true := by rw [yc8 hA .eql u1 hx, hz]; simp [Z25]
  obtain ⟨hfk, hnx⟩ := u3.cut hk2 hx;obtain ⟨o1, o2⟩ := Z1i7 (s := s) hA u2 u1 hfk (by omega);have hL2 : A.app L [.v (.string (A.ssub (bs s) fr i))] = L ++ [tD ((s.drop f).take (k - f))] := by rw [o2]; subst hA; rfl
  rw [<- hL2] at hnx;have hL3 : (A.app L [.v (.string (A.ssub (bs s) fr i))]).length = A.addN n 1 := by rw [hL2]; subst hA; simp [ar, u4]
  have hn1 : A.addN n 1 <= k + 1 := by subst hA; show n + 1 <= _; omega
  have e1 := Ze hA u4;have e2 : A.eqN 1 (A.len [.v (.string (A.ssub (bs s) fr i))]) := by subst hA; rfl
  have e3 : A.room (A.addN n 1) 16 := Z27 hA (by omega) (by omega);have hf1 := Zy hA u1 (by omega);have hu1 := Zz hA u1;have hms : s.length + 1 - (k + 1) < s.length + 1 - k := by omega
  cbv;refine bmT d1 ?_;cbv;refine bmF d2 ?_;cbv;refine ⟨ii, ?_⟩;refine bmT d3 ?_;cbv;refine ⟨o1, e1, e2, e3, hf1, hf1, ?_⟩;refine Z8 ((A.add i 1, k + 1), (A.add i 1, k + 1), A.app L [.v (.string (A.ssub (bs s) fr i))], A.addN n 1) [2] ⟨hu1, hu1, hnx, hL3, hn1⟩ hms ?_;exact ⟨by decide, Z9, ⟨rfl, trivial⟩, ⟨rfl, rfl, rfl, rfl, rfl, trivial⟩, rfl, rfl⟩
 ·have d3 : A.cmp .eql (A.sget (bs s) (A.tn i)) z = false := by
   rw [yc8 hA .eql u1 hx, hz]; simp only [Z25];have : x.toNat ≠ c.toNat := Z1hm.1 hc;rw [beq_eq_false_iff_ne]; exact fun h => this (Int.ofNat.inj h)
  have hnx := u3.on hk2 hx hc;have hf1 := Zy hA u1 (by omega);have hu1 := Zz hA u1;have hms : s.length + 1 - (k + 1) < s.length + 1 - k := by omega
  have hn1 : n <= k + 1 := by omega
  cbv;refine bmT d1 ?_;cbv;refine bmF d2 ?_;cbv;refine ⟨ii, ?_⟩;refine bmF d3 ?_;cbv;refine ⟨hf1, ?_⟩;refine Z8 ((A.add i 1, k + 1), (fr, f), L, n) [0] ⟨hu1, u2, hnx, u4, hn1⟩ hms ?_;exact ⟨by decide, Z9, ⟨rfl, trivial⟩, ⟨rfl, rfl, rfl, rfl, rfl, trivial⟩, rfl, rfl⟩
theorem Z1hf (s : By) (hs : s.length <= 1000) (c : UInt8) (Q) (hq : ∀ L, L = (Z1gn c s).map tD -> Q (RA.ret (.sl 1 L)) []) : CallA Tryz.prog 96 [tD s, tD [c]] [] Q := by
 refine Zcb (Z1js (bs s) (bs [c]) (by rw [Z1h9]; omega) (Nat.le_refl 1) _ fun L n hL hn => ?_);rw [Z1it, List.map_map] at hL;have hz := hq L hL;refine Z1w [0] ?_;clear hL;cbv;exact ⟨by cases L <;> exact hn.symm, Z2 [] (by decide) Z9 (H' := []) (d' := .sl 1 L) trivial rfl (Z1 hz)⟩
end Go.Proofs.YthljpccegkmdnaaGreatDoor

namespace Go.Txt
open Go Go.Batch
def Z1h1 : By := [106, 111, 117, 114, 110, 97, 108]
def inW : By := [105, 110]
def outW : By := [111, 117, 116]
def Z1h0 : By := [99, 111, 117, 110, 116]
def endW : By := [101, 110, 100]
def Z1gx : List By -> Option (Int × List Bool)
 | [w0, w1, w2] => if w0 = Z1h1 /\ (∀ x ∈ w2, x = 102 ∨ x = 97) then (numB w1).map fun n => (n, w2.map fun x => decide (x = 102)) else none
 | _ => none
def Z1h4 (w : By) : Option Int := if w = [63] then some (-1) else numB w
def mk3 (k i : Int) (a b c : Option Int) : Option Mv := match a, b, c with
 | some a, some b, some c => some ⟨k, a, i, b, c⟩
 | _, _, _ => none
def Z1gq : List By -> Option Mv
 | [w0, w1, w2, w3] => if w0 = inW then mk3 1 0 (numB w1) (numB w2) (numB w3) else if w0 = Z1h0 then mk3 3 0 (numB w1) (numB w2) (numB w3) else none
 | [w0, w1, w2, w3, w4] => if w0 = outW then (match Z1h4 w2 with | some i => mk3 2 i (numB w1) (numB w3) (numB w4) | none => none) else none
 | _ => none
def rdL : Nat -> Bool -> Jn -> List By -> (Bool × Jn) ⊕ Nat
 | _, e, j, [] => .inl (e, j)
 | i, e, j, l :: ls =>
  if e then .inr (i + 1)
  else if i = 0 then match Z1gx (Z1gn 124 l) with
   | some (n, fs) => rdL 1 false ⟨n, fs, []⟩ ls
   | none => .inr 1
  else if l = endW then rdL (i + 1) true j ls
  else match Z1gq (Z1gn 124 l) with
   | some m => rdL (i + 1) false ⟨j.ins, j.first, j.moves ++ [m]⟩ ls
   | none => .inr (i + 1)
def j0 : Jn := ⟨0, [], []⟩
def Z1gv (t : By) : Jn × Int × Int :=
 if 300 < t.length then (j0, 0, 10) else
  match rdL 0 false j0 (Z1gn 10 t).dropLast with
  | .inr i => (j0, i, 2)
  | .inl (e, j) => if e = false ∨ (Z1gn 10 t).getLast? ≠ some [] then (j0, (Z1gn 10 t).length, 2) else if Zr j ≠ 0 then (j0, 0, Zr j) else (j, 0, 0)
def Z1h5 (fs : List Bool) : By := fs.map fun b => if b then 102 else 97
def Z1hg (n : Int) : By := if n < 0 then [63] else Lib.itoa n
def Z1gz (m : Mv) : By :=
 if m.kind = 1 then inW ++ [124] ++ Lib.itoa m.bin
 else if m.kind = 3 then Z1h0 ++ [124] ++ Lib.itoa m.bin
 else outW ++ [124] ++ Lib.itoa m.bin ++ [124] ++ Z1hg m.inst
def Z1gu (m : Mv) : By := Z1gz m ++ [124] ++ Lib.itoa m.lo ++ [124] ++ Lib.itoa m.hi ++ [10]
def Z1gt (j : Jn) : By := Z1h1 ++ [124] ++ Lib.itoa j.ins ++ [124] ++ Z1h5 j.first ++ [10]
def Z1hr (j : Jn) : By := Z1gt j ++ j.moves.flatMap Z1gu ++ endW ++ [10]
end Go.Txt

namespace Go.Proofs.YthljpccegkmdnaaGreatDoor
open Go Go.Abs Go.Proofs Go.Batch Go.Txt
section
variable {P : Program} {T : TT} {r : Option Nat} {m : Nat} {s : St}
theorem Z1iw {o : Oper} {K : D -> List Blk -> List AD -> Prop} {X : D -> List Blk -> Prop} {x : Operand} {j pos : Nat} {l : By} {c : UInt8} {p z : Int} (ho : o.op = .next x true) (hx : evo s.env x = some (.b j 0))
  (hj : Z1m s.H j = some (.ob (.si (bs l) pos))) (hc : l[pos]? = some c) (ha : c.toNat < 128) (hp : p = (pos : Int)) (hz : z = (c.toNat : Int))
  (h : K (.tup [.v (.bool true), I p, .v (.int .i32 z)]) (s.H.set j (.ob (.si (bs l) (pos + 1)))) s.dfs) : OpA P r o s K X := by
 subst hp hz;have hlt := (List.getElem?_eq_some_iff.1 hc).1;have e : ∀ hb : pos < (bs l).size, (bs l)[pos]'hb = c := fun hb => by
  have := (List.getElem?_eq_some_iff.1 hc).2;rw [<- this]; rfl
 exact Z1hw ho hx hj (fun h' => absurd (show pos < (bs l).size from hlt) h') (fun h' => by rw [e h']; exact ⟨ha, h⟩)
theorem Z1ix {o : Oper} {K : D -> List Blk -> List AD -> Prop} {X : D -> List Blk -> Prop} {x : Operand} {j pos : Nat} {l : By} (ho : o.op = .next x true) (hx : evo s.env x = some (.b j 0))
  (hj : Z1m s.H j = some (.ob (.si (bs l) pos))) (hl : l.length <= pos) (h : K (.tup [.v (.bool false)]) s.H s.dfs) : OpA P r o s K X :=
 Z1hw ho hx hj (fun _ => h) (fun h' => absurd (show pos < l.length from h') (by omega))
end
theorem Z1jv (s t : By) (ht : t = Lib.trimS s [102, 97]) (hs : s.length <= 1000) (Q) (hq : Q (RA.ret (tD t)) []) : CallA Tryz.prog 143 [tD s, tD [102, 97]] [] Q := by
 subst ht;exact Z1k5 (bs s) (by rw [Z1h9]; omega) Q (by rw [Z1gy]; exact hq)
theorem Z1gw (s : By) (hs : s.length <= 1000) (Q) (hq : ∀ n b, (b = true -> numB s = some n) -> (b = false -> numB s = none) -> Q (RA.ret (.tup [I n, .v (.bool b)])) []) : CallA Tryz.prog 144 [tD s] [] Q :=
 Z1jh s hs Q (fun n h => hq n true (fun _ => h) (fun h => Bool.noConfusion h)) (fun h n => hq n false (fun h => Bool.noConfusion h) (fun _ => h))
set_option maxRecDepth 20000 in
set_option maxHeartbeats 4000000 in
theorem Z1k8 (w : List By) (hw : ∀ x ∈ w, x.length <= 1000) (hwl : w.length <= 1000) (WL : List D) (hWL : WL = w.map tD) (Q)
  (h1 : ∀ n fs FL, Z1gx w = some (n, fs) -> FL = fs.map Zv -> Q (RA.ret (.v (.bool true))) [.box (.agg [I n, .sl 1 FL, .v (.slice none 0 0)])])
  (h2 : Z1gx w = none -> ∀ n FL, Q (RA.ret (.v (.bool false))) [.box (.agg [I n, .sl 1 FL, .v (.slice none 0 0)])]) :
  CallA Tryz.prog 108 [.b 0 0, .sl 1 WL] [.box (.agg [I 0, .v (.slice none 0 0), .v (.slice none 0 0)])] Q := by
 obtain ⟨A, hA⟩ : ∃ A, A = ar := ⟨_, rfl⟩;have hWl : WL.length = w.length := by rw [hWL, List.length_map]
 refine Z38 Z0 hA [2, 3] Tryz.func108 rfl rfl rfl rfl rfl fun S hS => ?_
 by_cases g1 : w.length = 3
 ·obtain ⟨w0, w1, w2, rfl⟩ : ∃ a b c, w = [a, b, c] := by
   match w, g1 with
   | [a, b, c], _ => exact ⟨a, b, c, rfl⟩
  have hw1 : w1.length <= 1000 := hw w1 (by simp);have hw2 : w2.length <= 1000 := hw w2 (by simp);clear hw hwl g1;have hW3 : WL.length = 3 := hWl;have c1 : A.cmp .neq (A.oi (A.len WL)) 3 = false := by rw [yoiL hA hW3]; subst hA; rfl
  have i0 : A.inb 0 (A.len WL) := Z1b hA hW3 (k := 0) ⟨rfl⟩ (by omega);have i1 : A.inb 1 (A.len WL) := Z1b hA hW3 (k := 1) ⟨rfl⟩ (by omega);have i2 : A.inb 2 (A.len WL) := Z1b hA hW3 (k := 2) ⟨rfl⟩ (by omega);have n0 : A.get WL (A.tn 0) = some (tD w0) := Z18 hA (k := 0) ⟨rfl⟩ (by rw [hWL]; rfl);have n1 : A.get WL (A.tn 1) = some (tD w1) := Z18 hA (k := 1) ⟨rfl⟩ (by rw [hWL]; rfl);have n2 : A.get WL (A.tn 2) = some (tD w2) := Z18 hA (k := 2) ⟨rfl⟩ (by rw [hWL]; rfl);clear hWL hWl
  by_cases g0 : w0 = Z1h1
  ·have c2 : A.bnot (A.seq (bs w0) (bs Z1h1)) = false := by rw [yseq hA, g0]; subst hA; simp [ar]
   obtain ⟨tr, htr⟩ : ∃ tr, tr = Lib.trimS w2 [102, 97] := ⟨_, rfl⟩;have kT := fun Q h => Z1jv w2 tr htr hw2 Q h;cbv;refine bmF c1 ?_;cbv;refine ⟨i0, Need.mk ⟨_, n0, ?_⟩⟩;cbv;refine bmF c2 ?_;cbv;refine ⟨i2, Need.mk ⟨_, n2, ?_⟩⟩;cbv;refine Zg hS (b := false) rfl rfl rfl rfl rfl rfl rfl rfl (fun _ => ⟨[], _, [.v (.string (bs w2)), .v (.string (bs [102, 97]))], [], [], rfl, rfl, rfl, by decide, trivial, kT _ ?_⟩) (fun e => absurd rfl e);refine Z3 Z0 hA hS ?_
   by_cases g2 : tr = []
   ·have c3 : A.bnot (A.seq (bs tr) (bs [])) = false := by rw [yseq hA, g2]; subst hA; simp [ar]
    have hfa : ∀ x ∈ w2, x = 102 ∨ x = 97 := fun x hx => by
     have := Z1i4.1 (htr ▸ g2) x hx;simpa using this
    have hh : Z1gx [w0, w1, w2] = (numB w1).map fun n => (n, w2.map fun x => decide (x = 102)) := by
     simp only [Z1gx]; rw [if_pos ⟨g0, hfa⟩]
    rw [hh] at h1 h2;clear hh kT htr g2;cbv;refine bmF c3 ?_;refine Z3h hS (Z60 (a := { env := [(0, .b 0 0), (1, .sl 1 WL)], H := [.box (.agg [I 0, .v (.slice none 0 0), .v (.slice none 0 0)])], nt := 55, dfs := [] }) [0] ⟨by decide, Z2n, ⟨rfl, trivial⟩, ⟨rfl, rfl, trivial⟩, rfl, rfl⟩ ?_);refine Z7 (Zb hS (Z2w Z0 hA hS [] ?_));cbv;refine ⟨i1, Need.mk ⟨_, n1, ?_⟩⟩;cbv;refine Z4 hS [.v (.string (bs w1))] [] [] rfl rfl rfl rfl rfl rfl rfl rfl (by decide) trivial (Z1gw w1 hw1 _ fun n b b1 b0 => ?_);refine Z3 Z0 hA hS ?_;cbv;refine ⟨i2, Need.mk ⟨_, n2, ?_⟩⟩;cbv;refine Z2g hS rfl rfl rfl (Z1ih Z0 rfl rfl rfl rfl ?_);refine Z3 Z0 hA hS ?_;cbv;refine Zb hS ?_;refine Za (α := Nat × List D × Nat) (fun q => { env := [(0, .b 0 0), (6, .v (.bool b)), (39, .b 1 0)], H := [.box (.agg [I n, .o 2 1 q.2.2, .v (.slice none 0 0)]), .ob (.si (bs w2) q.1), .els 1 q.2.1], nt := 55, dfs := [] })
     (fun q => w2.length - q.1) (fun q => q.1 <= w2.length /\ q.2.1 = (w2.take q.1).map (fun x => Zv (decide (x = 102))) /\ q.2.2 = q.1) (0, [], 0) ⟨Nat.zero_le _, by simp, rfl⟩ ?_ ?_
    ·refine Zfk 0 1 1 (.agg [I n, .o 2 1 0, .v (.slice none 0 0)]) rfl rfl rfl ?_;exact Zf [0, 1, 2] ⟨by decide, Z2n, ⟨rfl, rfl, rfl, trivial⟩, ⟨rfl, rfl, rfl, trivial⟩, rfl, rfl⟩
    rintro ⟨k, L, m⟩ ⟨u1, u2, u3⟩;dsimp only at u1 u2 u3;have hLl : L.length = m := by rw [u2, u3]; simp; omega
    refine Z2w Z0 hA hS [] ?_
    by_cases hk : k < w2.length
    ·obtain ⟨c, hc⟩ : ∃ c, w2[k]? = some c := ⟨_, List.getElem?_eq_getElem hk⟩;have hc2 := hfa c (List.mem_of_getElem? hc);have h128 : c.toNat < 128 := by rcases hc2 with rfl | rfl <;> decide
     obtain ⟨z, hz⟩ : ∃ z : Int, z = (c.toNat : Int) := ⟨_, rfl⟩;obtain ⟨p, hp⟩ : ∃ p : Int, p = (k : Int) := ⟨_, rfl⟩;have hcm : A.cmp .eql z 102 = decide (c = 102) := by
      rw [hz]; rcases hc2 with rfl | rfl <;> (subst hA; rfl)
     have hL2 : A.app L [.v (.bool (A.cmp .eql z 102))] = (w2.take (k + 1)).map (fun x => Zv (decide (x = 102))) := by
      rw [hcm, List.take_add_one, hc]; subst hA; rw [u2]; simp [ar, Zv]
     have hL3 : A.addN m 1 = k + 1 := by subst hA; show m + 1 = _; omega
     have e1 := Ze hA hLl;have e2 : A.eqN 1 (A.len [.v (.bool (A.cmp .eql z 102))]) := by subst hA; rfl
     have e3 : A.room (A.addN m 1) 1 := Z27 hA (by omega) (by omega);have hms : w2.length - (k + 1) < w2.length - k := by omega
     have w8 := hc;clear hfa hc2;cbv;refine Z2g hS rfl rfl rfl (Z1iw (l := w2) (p := p) (z := z) rfl rfl rfl w8 h128 hp hz ?_);refine Z3 Z0 hA hS ?_;cbv;refine ⟨e1, e2, e3, ?_⟩;refine Z8 (k + 1, A.app L [.v (.bool (A.cmp .eql z 102))], A.addN m 1) [0, 1, 4] ⟨hk, hL2, hL3⟩ hms ?_;exact ⟨by decide, Z2n, ⟨rfl, rfl, rfl, trivial⟩, ⟨rfl, rfl, rfl, trivial⟩, rfl, rfl⟩
    ·have hz : Q (RA.ret (.v (.bool b))) [.box (.agg [I n, .sl 1 L, .v (.slice none 0 0)])] := by
      rw [List.take_of_length_le (by omega)] at u2
      cases b with
      | true => exact h1 n _ L (by rw [b1 rfl]; rfl) (by rw [u2, List.map_map]; rfl)
      | false => exact h2 (by rw [b0 rfl]; rfl) n L
     clear u2 hfa;cbv;refine Z2g hS rfl rfl rfl (Z1ix (l := w2) rfl rfl rfl (by omega) ?_);refine Z3 Z0 hA hS ?_;cbv;refine Z7 ?_;cbv;refine Z1w [2] ?_;cbv;exact ⟨by cases L <;> exact hLl.symm, Z2 [0] (by decide) Z2n (H' := [.box (.agg [I n, .sl 1 L, .v (.slice none 0 0)])]) (d' := .v (.bool b)) ⟨rfl, trivial⟩ rfl (Z1 hz)⟩
   ·have c3 : A.bnot (A.seq (bs tr) (bs [])) = true := by rw [yseq hA]; subst hA; simp [ar, g2]
    have hh : Z1gx [w0, w1, w2] = none := by
     simp only [Z1gx];rw [if_neg];rintro ⟨-, hfa⟩;exact g2 (htr.trans (Z1i4.2 fun x hx => by rcases hfa x hx with rfl | rfl <;> rfl))
    have hz := h2 hh 0 [];cbv;refine bmT c3 ?_;cbv;refine Z3h hS (Z7w 0 (.agg [I 0, .sl 1 [], .v (.slice none 0 0)]) rfl ⟨.rfl, .nil, .rfl, trivial⟩ ?_);refine Z7 (Zb hS (Z2w Z0 hA hS [] ?_));cbv;exact Z2 [0] (by decide) Z2n (H' := [.box (.agg [I 0, .sl 1 [], .v (.slice none 0 0)])]) (d' := .v (.bool false)) ⟨rfl, trivial⟩ rfl (Z1 hz)
  ·have c2 : A.bnot (A.seq (bs w0) (bs Z1h1)) = true := by rw [yseq hA]; subst hA; simp [ar, g0]
   have hz := h2 (by simp only [Z1gx]; rw [if_neg (fun h => g0 h.1)]) 0 [];cbv;refine bmF c1 ?_;cbv;refine ⟨i0, Need.mk ⟨_, n0, ?_⟩⟩;cbv;refine bmT c2 ?_;cbv;refine Zg (f := 0) hS rfl rfl rfl rfl rfl rfl rfl rfl (fun e => Bool.noConfusion e) (fun _ => ?_);refine Z3 Z0 hA hS ?_;cbv;refine Z3h hS (Z7w 0 (.agg [I 0, .sl 1 [], .v (.slice none 0 0)]) rfl ⟨.rfl, .nil, .rfl, trivial⟩ ?_);refine Z7 (Zb hS (Z2w Z0 hA hS [] ?_));cbv;exact Z2 [0] (by decide) Z2n (H' := [.box (.agg [I 0, .sl 1 [], .v (.slice none 0 0)])]) (d' := .v (.bool false)) ⟨rfl, trivial⟩ rfl (Z1 hz)
 ·have c1 : A.cmp .neq (A.oi (A.len WL)) 3 = true := by rw [yoiL hA hWl]; subst hA; simp [ar, Z25]; omega
  have hz := h2 (by
   match w, g1 with
   | [], _ => rfl
   | [_], _ => rfl
   | [_, _], _ => rfl
   | _ :: _ :: _ :: _ :: _, _ => rfl) 0 []
  cbv;refine bmT c1 ?_;cbv;refine Zg (f := 0) hS rfl rfl rfl rfl rfl rfl rfl rfl (fun e => Bool.noConfusion e) (fun _ => ?_);refine Z3 Z0 hA hS ?_;cbv;refine Z3h hS (Z7w 0 (.agg [I 0, .sl 1 [], .v (.slice none 0 0)]) rfl ⟨.rfl, .nil, .rfl, trivial⟩ ?_);refine Z7 (Zb hS (Z2w Z0 hA hS [] ?_));cbv;exact Z2 [0] (by decide) Z2n (H' := [.box (.agg [I 0, .sl 1 [], .v (.slice none 0 0)])]) (d' := .v (.bool false)) ⟨rfl, trivial⟩ rfl (Z1 hz)
end Go.Proofs.YthljpccegkmdnaaGreatDoor

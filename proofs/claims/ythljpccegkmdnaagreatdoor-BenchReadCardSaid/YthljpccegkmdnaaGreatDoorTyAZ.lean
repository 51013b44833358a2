/- Part TyAZ of the proofs about the benches of the accordion maker: see the last text of the claim for what is proved. -/
import Derived.Lib.SplitLaws
import Derived.Shelf.Strings.SlTrimAscii
import Derived.Test.YthljpccegkmdnaaGreatDoorTyAY
import Derived.Test.YthljpccegkmdnaaGreatDoorTyAT
import Derived.Test.YthljpccegkmdnaaGreatDoorTyAX
import Derived.Test.YthljpccegkmdnaaGreatDoorTyAS
import Derived.Test.YthljpccegkmdnaaGreatDoorTyAR
set_option linter.unusedVariables false
set_option linter.unusedSimpArgs false
set_option linter.unnecessarySimpa false
set_option linter.constructorNameAsVariable false

namespace Go.Proofs.YthljpccegkmdnaaGreatDoor
open Go Go.Abs Go.Proofs
theorem Z1ik {F : Fz} {μ : Mu} {H : List Blk} {w w' : World} (h : HR F μ H w) (hsz : w.heap.size <= w'.heap.size) (hold : ∀ b, b < w.heap.size -> w'.heap[b]? = w.heap[b]?) (e1 : w'.tape = w.tape) (e2 : w'.os = w.os) (e3 : w'.output = w.output) : HR F μ H w' /\ Post F μ H w F μ H w' := by
 have := Z5e (μ' := μ) (H' := H) (w' := w') (fun _ => False) h (Nat.le_refl _) (fun _ _ => rfl) (fun _ _ => rfl) (fun _ _ _ => Iff.rfl) (fun _ h => h.elim) hsz e1 e2 e3
  (fun b hb _ => hold b hb) (fun _ _ h => h.elim) (fun _ _ _ h => h.elim) (fun _ h => h.elim) (fun _ _ _ _ h => h.elim) (fun _ _ h => h.elim) (fun _ _ _ h => h.elim) (fun _ h => h.elim) (fun _ _ h => h.elim)
 exact ⟨this.1, this.2.1⟩
theorem Z1j7 {w : World} {os : Array Obj} {k b : Nat} (h : b < w.heap.size) : (Sort.grow (w.drewN k) os).heap[b]? = w.heap[b]? := by
 show (w.heap ++ os)[b]? = _;rw [Array.getElem?_append_left h]
theorem Z1jq {F : Fz} {μ : Mu} {H : List Blk} {w : World} (h : HR F μ H w) : Lib.TabIs Tryz.prog w "internal/strconv.uint64pow10" .u64 Lib.pow10Tab := by
 obtain ⟨⟨o, ho, t, fr, rfl⟩, -⟩ := h.kb 1 _ rfl;have hg : Tryz.prog.globalNamed "internal/strconv.uint64pow10" = some 1 := by kernel_rfl
 unfold Lib.TabIs World.var?;rw [hg];simp only [Option.bind_some, ho];rfl
theorem Z1il {vs : Array Value} {d : D} (hl : [d].length = vs.size) : ∃ x, vs = #[x] := by
 have h1 : vs.size = 1 := hl.symm;obtain ⟨x, e⟩ : ∃ x, vs[0]? = some x := ⟨_, Array.getElem?_eq_getElem (by omega)⟩;refine ⟨x, Array.ext_getElem? fun i => ?_⟩
 match i with
 | 0 => rw [e]; rfl
 | i + 1 => rw [Array.getElem?_eq_none (by omega), Array.getElem?_eq_none (by simp)]
theorem Z1k3 (n : Int) (h0 : -9223372036854775808 <= n) (h1 : n <= 9223372036854775807) (Q) (hq : Q (RA.ret (.v (.string ⟨(Lib.itoa n).toArray⟩))) []) : CallA Tryz.prog 79 [I n] [] Q := by
 refine ⟨⟨_, Tryz.func79, by kernel_rfl, by kernel_rfl⟩, fun F μ vs w hr hl hv => ?_⟩;obtain ⟨x, rfl⟩ := Z1il hl;have hx := VR.v_inv (hv 0 _ x rfl rfl);subst hx;have hcall := Tryz.strconv_Itoa n h0 h1 w (Z1jq hr);refine CallsIn.mono (callsIn_wide.2 hcall) fun e w' he => ?_;obtain ⟨rfl, k, os, rfl⟩ := he;obtain ⟨r1, p1⟩ := Z1ik (w' := Sort.grow (w.drewN k) os) hr (by show _ <= (w.heap ++ os).size; rw [Array.size_append]; omega) (fun b hb => Z1j7 hb) rfl rfl rfl;exact ⟨F, μ, [], _, ⟨p1, r1, Nat.le_refl _, fun _ _ => rfl, fun k hk => by simp [Z13] at hk⟩, .cl _ _ (.v _ rfl), hq⟩
end Go.Proofs.YthljpccegkmdnaaGreatDoor

namespace Go.Proofs.YthljpccegkmdnaaGreatDoor
open Go Go.Abs Go.Proofs Go.RowKit
theorem Z1hd {F : Fz} {μ : Mu} {H : List Blk} {w w' : World} (h : HR F μ H w) (b : Below w.heap.size w w') : HR F μ H w' /\ Post F μ H w F μ H w' :=
 Z1ik h b.size b.block b.tape b.os b.output
theorem Z1i5 {F : Fz} {μ : Mu} {H : List Blk} {w : World} (h : HR F μ H w) (g : Nat) (hg : g = 3 ∨ g = 4) : ∃ ev, w.cell? ⟨g, 0, none⟩ = some ev /\ (ev = .nilIface ∨ ∃ te pe, ev = .iface te pe) := by
 rcases hg with rfl | rfl
 ·obtain ⟨⟨o, ho, te, pe, t, fr, rfl⟩, -⟩ := h.kb 3 _ rfl;exact ⟨.iface te pe, by simp [World.cell?, ho], .inr ⟨te, pe, rfl⟩⟩
 ·obtain ⟨⟨o, ho, te, pe, t, fr, rfl⟩, -⟩ := h.kb 4 _ rfl;exact ⟨.iface te pe, by simp [World.cell?, ho], .inr ⟨te, pe, rfl⟩⟩
theorem Z1jr {F : Fz} {μ : Mu} {H : List Blk} {w : World} (h : HR F μ H w) : ∃ m, w.cell? ⟨2, 0, none⟩ = some (.int .i64 m) := by
 obtain ⟨⟨o, ho, m, t, fr, rfl⟩, -⟩ := h.kb 2 _ rfl;exact ⟨m, by simp [World.cell?, ho]⟩
theorem Z1i2 (F : Fz) (x y : D) (vx vy : Value) (hx : CR F x vx) (hy : CR F y vy) : CR F (.tup [x, y]) (.tuple #[vx, vy]) := by
 refine .tup _ _ rfl fun i c v h1 h2 => ?_
 match i, h1, h2 with
 | 0, h1, h2 => simp at h1 h2; subst h1 h2; exact hx
 | 1, h1, h2 => simp at h1 h2; subst h1 h2; exact hy
 | i + 2, h1, h2 => simp at h1
theorem Z1k4 (s : ByteArray) (hs : s.size <= 281474976710656) (Q) (hok : ∀ n, Lib.atoiAll s.data.toList = .ok n -> Q (RA.ret (.tup [I n, .v .nilIface])) [])
  (her : ∀ n, (∀ m, Lib.atoiAll s.data.toList ≠ .ok m) -> Q (RA.ret (.tup [I n, .ifc 293 .any])) []) : CallA Tryz.prog 138 [.v (.string s)] [] Q := by
 refine ⟨⟨_, Tryz.func138, by kernel_rfl, by kernel_rfl⟩, fun F μ vs w hr hl hv => ?_⟩;obtain ⟨x, rfl⟩ := Z1il hl;have hx := VR.v_inv (hv 0 _ x rfl rfl);subst hx
 cases h : Lib.atoiAll s.data.toList with
 | ok n =>
  refine CallsIn.mono (callsIn_wide.2 (Tryz.strconv_Atoi_ok s (by omega) n h w)) fun e w' he => ?_;obtain ⟨rfl, hw⟩ := he;have hb : Below w.heap.size w w' := by
   rcases hw with rfl | ⟨t, rfl⟩
   ·exact Below.refl _ _
   ·exact Lib.bytesWorld_below _ _ _
  obtain ⟨r1, p1⟩ := Z1hd hr hb;exact ⟨F, μ, [], _, ⟨p1, r1, Nat.le_refl _, fun _ _ => rfl, fun k hk => by simp [Z13] at hk⟩, .cl _ _ (Z1i2 F _ _ _ _ (.v _ rfl) (.v _ rfl)), hok n h⟩
 | range =>
  obtain ⟨ev, hv1, hv2⟩ := Z1i5 hr 4 (.inr rfl);refine CallsIn.mono (callsIn_wide.2 (Tryz.strconv_Atoi_range s hs h ev w hv1 hv2)) fun e w' he => ?_;obtain ⟨N, rfl, -, -, hb⟩ := he;obtain ⟨r1, p1⟩ := Z1hd hr hb;exact ⟨F, μ, [], _, ⟨p1, r1, Nat.le_refl _, fun _ _ => rfl, fun k hk => by simp [Z13] at hk⟩, .cl _ _ (Z1i2 F _ _ _ _ (.v _ rfl) (.ifc _ _ _ (.any _))), her _ (fun m hm => by rw [h] at hm; cases hm)⟩
 | _ =>
  obtain ⟨ev, hv1, hv2⟩ := Z1i5 hr 3 (.inl rfl);refine CallsIn.mono (callsIn_wide.2 (Tryz.strconv_Atoi_syntax s hs h ev w hv1 hv2)) fun e w' he => ?_;obtain ⟨N, rfl, -, -, hb⟩ := he;obtain ⟨r1, p1⟩ := Z1hd hr hb;exact ⟨F, μ, [], _, ⟨p1, r1, Nat.le_refl _, fun _ _ => rfl, fun k hk => by simp [Z13] at hk⟩, .cl _ _ (Z1i2 F _ _ _ _ (.v _ rfl) (.ifc _ _ _ (.any _))), her _ (fun m hm => by rw [h] at hm; cases hm)⟩
end Go.Proofs.YthljpccegkmdnaaGreatDoor

namespace Go.Proofs.YthljpccegkmdnaaGreatDoor
open Go Go.Abs Go.Proofs Go.RowKit
theorem Z1i6 {vs : Array Value} {d d2 : D} (hl : [d, d2].length = vs.size) : ∃ x y, vs = #[x, y] := by
 have h1 : vs.size = 2 := hl.symm;obtain ⟨x, e⟩ : ∃ x, vs[0]? = some x := ⟨_, Array.getElem?_eq_getElem (by omega)⟩;obtain ⟨y, e2⟩ : ∃ x, vs[1]? = some x := ⟨_, Array.getElem?_eq_getElem (by omega)⟩;refine ⟨x, y, Array.ext_getElem? fun i => ?_⟩
 match i with
 | 0 => rw [e]; rfl
 | 1 => rw [e2]; rfl
 | i + 2 => rw [Array.getElem?_eq_none (by omega), Array.getElem?_eq_none (by simp)]
def strD (s : ByteArray) : D := .v (.string s)
theorem Z1js (s sep : ByteArray) (hs : s.size < 4294967281) (h1 : 1 <= sep.size) (Q) (hq : ∀ L n, L = (Lib.splitB sep 0 (Lib.countB s sep) s).map strD -> L.length = n -> Q (RA.ret (.o 0 1 n)) [.els 1 L]) : CallA Tryz.prog 96 [strD s, strD sep] [] Q := by
 refine ⟨⟨_, Tryz.func96, by kernel_rfl, by kernel_rfl⟩, fun F μ vs w hr hl hv => ?_⟩;obtain ⟨x, y, rfl⟩ := Z1i6 hl;have hx := VR.v_inv (hv 0 _ x rfl rfl);have hy := VR.v_inv (hv 1 _ y rfl rfl);subst hx hy;obtain ⟨m, hm⟩ := Z1jr hr;obtain ⟨l, hL⟩ : ∃ l, l = Lib.splitB sep 0 (Lib.countB s sep) s := ⟨_, rfl⟩;have hlen : l.length = Lib.countB s sep + 1 := by rw [hL]; exact Lib.splitB_all sep h1 0 _ s rfl
 refine CallsIn.mono (callsIn_wide.2 (Tryz.strings_Split s sep m w hs hm h1)) fun e w' he => ?_;obtain ⟨rfl, rfl⟩ := he;rw [<- hL, <- hlen];have hsz : ((l.map Value.string).toArray).size = l.length := by simp
 obtain ⟨r1, p1, -⟩ := Zji (k := ([] : List Blk).length) (x := .els 1 (l.map strD)) (es := l.map strD) (sz := 1) (c := (l.map Value.string).toArray) hr (hr.dom 0 (Nat.zero_le _)) (Nat.le_refl _) (fun sz es h => by
   cases h
   refine ⟨fun d hd => ?_⟩
   obtain ⟨b, -, rfl⟩ := List.mem_map.1 hd
   rfl) rfl (fun i e he => by
   rw [List.getElem?_map] at he
   obtain ⟨b, hb, rfl⟩ := Option.map_eq_some_iff.1 he
   refine ⟨rfl, fun r d hd => ?_⟩
   match r, hd with
   | 0, hd =>
    simp [strD, D.cells] at hd; subst hd
    exact ⟨.string b, by simp [List.getElem?_map, hb], rfl, .cl _ _ (.v _ rfl)⟩
   | r + 1, hd => simp [strD, D.cells] at hd) (by simp) 9
 refine ⟨F, _, _, .o 0 1 l.length, ⟨p1, r1, Nat.zero_le _, fun j hj => absurd hj (Nat.not_lt_zero _), fun k hk => by simp [Z13] at hk⟩, .o 0 1 l.length w.heap.size l.length l.length ?_ (Nat.le_refl _) (by omega), ?_⟩
 ·rw [hsz]; exact Z6h _ _ _
 ·exact hq (l.map strD) l.length (by rw [hL]) (by simp)
end Go.Proofs.YthljpccegkmdnaaGreatDoor

namespace Go.Proofs.YthljpccegkmdnaaGreatDoor
open Go Go.Abs Go.Proofs Go.RowKit
end Go.Proofs.YthljpccegkmdnaaGreatDoor

namespace Go.Proofs.YthljpccegkmdnaaGreatDoor
open Go Go.Abs Go.Proofs Go.Txt
def tD (l : By) : D := .v (.string (bs l))
theorem Z1jt {A : Ar} (hA : A = ar) {x y : ByteArray} (h : x.size + y.size <= 1000000) : A.scatOK x y := by subst hA; show _ <= _; omega
theorem Z1j9 {A : Ar} (hA : A = ar) (s : By) : A.oi (A.slen (bs s)) = (s.length : Int) := by subst hA; rfl
theorem Z1hx (l : By) : (bs l).toList = l := by rw [Lib.toList_data]; exact Z1gy l
theorem yseq {A : Ar} (hA : A = ar) (a b : By) : A.seq (bs a) (bs b) = decide (a = b) := by
 subst hA;show ((bs a).toList == (bs b).toList) = _;rw [Z1hx, Z1hx]
 by_cases h : a = b
 ·subst h; simp
 ·rw [beq_eq_false_iff_ne.2 h]; simp [h]
theorem Z1h3 (n : Int) (t : By) (ht : t = Lib.itoa n) (h0 : -9223372036854775808 <= n) (h1 : n <= 9223372036854775807) (Q) (hq : Q (RA.ret (tD t)) []) : CallA Tryz.prog 79 [I n] [] Q := by
 subst ht; exact Z1k3 n h0 h1 Q hq
theorem Z1jg {l : By} {n : Int} (h : Lib.atoiAll l = .ok n) : n <= 9223372036854775807 := by
 unfold Lib.atoiAll at h
 split at h
 ·cases h
 ·dsimp only at h
  split at h
  ·cases h
  ·cases h
  ·split at h
   ·cases h
   ·split at h
    ·cases h
    ·cases h
     split <;> omega
end Go.Proofs.YthljpccegkmdnaaGreatDoor

namespace Go.Proofs.YthljpccegkmdnaaGreatDoor
open Go Go.Abs Go.Proofs Go.Txt
section
variable {A : Ar} (hA : A = ar)
include hA
theorem ycl (op : BinOp) (s : By) (n : Int) : A.cmp op (A.oi (A.slen (bs s))) n = Z25 op (s.length : Int) n := by subst hA; rfl
theorem ycr (op : BinOp) (s : By) (n : Int) : A.cmp op n (A.oi (A.slen (bs s))) = Z25 op n (s.length : Int) := by subst hA; rfl
theorem Z1im {s : By} {i : Int} {k : Nat} (h : IsI i k) (hk : k < s.length) : A.inb i (A.slen (bs s)) := by
 subst hA; have := h.eq; exact ⟨by omega, by show i < ((bs s).size : Int); rw [Z1h9]; omega⟩
theorem Z1jo {s : By} {i : Int} {k : Nat} {c : UInt8} (h : IsI i k) (hc : s[k]? = some c) : A.sget (bs s) (A.tn i) = (c.toNat : Int) := by
 subst hA; rw [h.eq];show ((Zqy (bs s) ((k : Int).toNat) : Nat) : Int) = _;have : (bs s).data[k]? = some c := by simpa [bs] using hc
 simp [Zqy, this]
theorem yc8 (op : BinOp) {s : By} {i : Int} {k : Nat} {c : UInt8} (h : IsI i k) (hc : s[k]? = some c) (n : Int) : A.cmp op (A.sget (bs s) (A.tn i)) n = Z25 op (c.toNat : Int) n := by
 rw [Z1jo hA h hc]; subst hA; rfl
theorem Z1k7 {x : Int} {c : UInt8} (e : x = (c.toNat : Int)) (h : 48 <= c.toNat) : A.wrap .i64 (A.wrap .u8 (A.sub x 48)) = dgv c := by
 subst hA; subst e;have hc := c.toNat_lt;have h1 : IntKind.u8.wrap ((c.toNat : Int) - 48) = dgv c := by
  obtain ⟨k, hk⟩ : ∃ k : Nat, c.toNat = 48 + k := ⟨c.toNat - 48, by omega⟩;unfold dgv; rw [hk, IntKind.wrap_u8]; omega
 show IntKind.i64.wrap (IntKind.u8.wrap ((c.toNat : Int) - 48)) = _;rw [h1]; exact Zxl (by unfold dgv; omega)
end
def fold (l : By) : Int := l.foldl (fun n c => 10 * n + dgv c) 0
theorem Z1iv (l : By) (c : UInt8) : fold (l ++ [c]) = 10 * fold l + dgv c := by simp [fold]
theorem Z1ja {s : By} (h1 : 1 <= s.length) (h2 : s.length <= 3) (hz : ¬ (s[0]? = some 48 /\ 1 < s.length)) (hd : ∀ c ∈ s, dig c = true) : numB s = some (fold s) := by
 match s, h1, h2 with
 | [a], _, _ => simp [numB, hd, fold]
 | [a, b], _, _ =>
  have : a ≠ 48 := fun e => hz (by simp [e]);simp [numB, hd, fold, this]
 | [a, b, c], _, _ =>
  have : a ≠ 48 := fun e => hz (by simp [e]);simp [numB, hd, fold, this]
theorem Z1i3 {s : By} {n : Int} (h : numB s = some n) : (∀ c ∈ s, dig c = true) /\ ¬ (s[0]? = some 48 /\ 1 < s.length) := by
 match s, h with
 | [a], h =>
  simp only [numB] at h
  split at h
  ·rename_i ha; simpa using ha
  ·cases h
 | [a, b], h =>
  simp only [numB] at h
  split at h
  ·rename_i ha; simp [ha]
  ·cases h
 | [a, b, c], h =>
  simp only [numB] at h
  split at h
  ·rename_i ha; simp [ha]
  ·cases h
theorem Z1jb : ∀ (l : By), (∀ c ∈ l, dig c = true) -> l.length <= 3 -> 0 <= fold l /\ fold l <= 999
 | [], _, _ => by simp [fold]
 | [a], h, _ => by have := Z1gp.1 (h a (by simp)); simp [fold, dgv]; omega
 | [a, b], h, _ => by have := Z1gp.1 (h a (by simp)); have := Z1gp.1 (h b (by simp)); simp [fold, dgv]; omega
 | [a, b, c], h, _ => by have := Z1gp.1 (h a (by simp)); have := Z1gp.1 (h b (by simp)); have := Z1gp.1 (h c (by simp)); simp [fold, dgv]; omega
 | _ :: _ :: _ :: _ :: _, _, h => by simp at h
end Go.Proofs.YthljpccegkmdnaaGreatDoor

namespace Go.Proofs.YthljpccegkmdnaaGreatDoor
open Go Go.Abs Go.Proofs Go.Txt
section
variable {A : Ar} (hA : A = ar)
include hA
theorem Z1i7 {s : By} {x y : Int} {f k : Nat} (hx : IsI x f) (hy : IsI y k) (hfk : f <= k) (hk : k <= s.length) : A.ssubOK (bs s) x y /\ A.ssub (bs s) x y = bs ((s.drop f).take (k - f)) := by
 subst hA;have e1 := hx.eq;have e2 := hy.eq;subst e1 e2;refine ⟨⟨by omega, by omega, by show (k : Int) <= ((bs s).size : Int); rw [Z1h9]; omega⟩, ?_⟩;show (bs s).extract ((f : Int).toNat) ((k : Int).toNat) = _;rw [Int.toNat_natCast, Int.toNat_natCast, <- bs_of ((bs s).extract f k), Lib.extract_data];simp [bs, List.extract, List.take_drop]
end
structure SplitAt (c : UInt8) (s : By) (k f : Nat) (L : List D) : Prop where
 le : k <= s.length + 1
 out : ∃ done, L = done.map tD /\ ((k <= s.length /\ f <= k /\ Z1gn c s = done ++ Z1gn c (s.drop f) /\ c ∉ (s.drop f).take (k - f)) ∨ (k = s.length + 1 /\ Z1gn c s = done))
theorem SplitAt.start (c : UInt8) (s : By) : SplitAt c s 0 0 [] := ⟨by omega, [], rfl, .inl ⟨by omega, by omega, by simp, by simp⟩⟩
theorem SplitAt.cut {c : UInt8} {s : By} {k f : Nat} {L : List D} (h : SplitAt c s k f L) (hk : k < s.length) (hc : s[k]? = some c) : f <= k /\ SplitAt c s (k + 1) (k + 1) (L ++ [tD ((s.drop f).take (k - f))]) := by
 obtain ⟨done, rfl, ⟨h1, h2, h3, h4⟩ | ⟨h1, -⟩⟩ := h.out
 ·have e : s.drop f = (s.drop f).take (k - f) ++ c :: s.drop (k + 1) := by
   have h5 := (List.take_append_drop (k - f) (s.drop f)).symm;rw [List.drop_drop, show f + (k - f) = k by omega] at h5;have h6 : s.drop k = c :: s.drop (k + 1) := by
    rw [List.drop_eq_getElem_cons hk];rw [List.getElem?_eq_getElem hk] at hc;rw [Option.some.inj hc]
   rw [h6] at h5; exact h5
  refine ⟨h2, by omega, done ++ [(s.drop f).take (k - f)], by simp, .inl ⟨by omega, Nat.le_refl _, ?_, by simp⟩⟩;rw [h3]
  conv => lhs; rw [e]
  rw [Z1hj h4]; simp
 ·omega
theorem SplitAt.on {c : UInt8} {s : By} {k f : Nat} {L : List D} (h : SplitAt c s k f L) (hk : k < s.length) {x : UInt8} (hc : s[k]? = some x) (hx : x ≠ c) : SplitAt c s (k + 1) f L := by
 obtain ⟨done, rfl, ⟨h1, h2, h3, h4⟩ | ⟨h1, -⟩⟩ := h.out
 ·refine ⟨by omega, done, rfl, .inl ⟨by omega, by omega, h3, ?_⟩⟩;rw [show k + 1 - f = (k - f) + 1 by omega, List.take_add_one, List.getElem?_drop, show f + (k - f) = k by omega, hc];simp only [Option.toList_some, List.mem_append, List.mem_singleton, not_or];exact ⟨h4, fun e => hx e.symm⟩
 ·omega
theorem SplitAt.last {c : UInt8} {s : By} {k f : Nat} {L : List D} (h : SplitAt c s k f L) (hk : k = s.length) : f <= k /\ SplitAt c s (k + 1) (k + 1) (L ++ [tD ((s.drop f).take (k - f))]) := by
 obtain ⟨done, rfl, ⟨h1, h2, h3, h4⟩ | ⟨h1, -⟩⟩ := h.out
 ·refine ⟨h2, by omega, done ++ [(s.drop f).take (k - f)], by simp, .inr ⟨by omega, ?_⟩⟩;have e : (s.drop f).take (k - f) = s.drop f := List.take_of_length_le (by simp; omega);rw [h3, e, Z1hi (by rw [<- e]; exact h4)]
 ·omega
theorem SplitAt.fin {c : UInt8} {s : By} {k f : Nat} {L : List D} (h : SplitAt c s k f L) (hk : s.length < k) : L = (Z1gn c s).map tD := by
 obtain ⟨done, rfl, ⟨h1, -⟩ | ⟨-, h3⟩⟩ := h.out
 ·omega
 ·rw [h3]
theorem Z1hf (s : By) (hs : s.length <= 1000) (c : UInt8) (Q) (hq : ∀ L, L = (Z1gn c s).map tD -> Q (RA.ret (.sl 1 L)) []) : CallA Tryz.prog 96 [tD s, tD [c]] [] Q := by
 refine Zcb (Z1js (bs s) (bs [c]) (by rw [Z1h9]; omega) (Nat.le_refl 1) _ fun L n hL hn => ?_);rw [Z1it, List.map_map] at hL;have hz := hq L hL;refine Z1w [0] ?_;clear hL;cbv;exact ⟨by cases L <;> exact hn.symm, Z2 [] (by decide) Z9 (H' := []) (d' := .sl 1 L) trivial rfl (Z1 hz)⟩
end Go.Proofs.YthljpccegkmdnaaGreatDoor

namespace Go.Proofs.YthljpccegkmdnaaGreatDoor
open Go Go.Abs Go.Proofs Go.Txt
structure SzB (x : ByteArray) (n : Nat) : Prop where
 le : x.size <= n
structure IsT (x : ByteArray) (l : By) : Prop where
 eq : x = bs l
theorem SzB.lit (l : By) {n : Nat} (h : l.length <= n) : SzB (bs l) n := ⟨h⟩
theorem SzB.cat {A : Ar} (hA : A = ar) {x y : ByteArray} {n m : Nat} (h : SzB x n) (h' : SzB y m) : SzB (A.scat x y) (n + m) := ⟨by
 subst hA
 have a := h.le
 have b := h'.le
 show (x ++ y).size <= _
 rw [ByteArray.size_append]; omega⟩
theorem scO {A : Ar} (hA : A = ar) {x y : ByteArray} {n m : Nat} (h : SzB x n) (h' : SzB y m) (hn : n + m <= 1000000) : A.scatOK x y := by
 have a := h.le;have b := h'.le;exact Z1jt hA (by omega)
theorem IsT.cat {A : Ar} (hA : A = ar) {x y : ByteArray} {a b : By} (h : IsT x a) (h' : IsT y b) : IsT (A.scat x y) (a ++ b) := ⟨by
 subst hA; rw [h.eq, h'.eq]; exact Z1jp a b⟩
theorem IsT.lit (l : By) : IsT (bs l) l := ⟨rfl⟩
theorem IsT.sz {x : ByteArray} {l : By} (h : IsT x l) {n : Nat} (hl : l.length <= n) : SzB x n := ⟨by rw [h.eq]; exact hl⟩
theorem IsT.of {x : ByteArray} {l m : By} (h : IsT x l) (e : l = m) : IsT x m := e ▸ h
theorem Z1kb {cs ds : List D} (h : WkL cs ds) : WkD (.tup cs) (.tup ds) := ⟨fun F μ v hv => by
 obtain ⟨vs, rfl, hl, hr⟩ := hv.tup_inv
 exact .tup _ _ (by rw [<- h.length]; exact hl) (fun i c v hc hv => by
  obtain ⟨a, h1, h2⟩ := h.get hc
  exact h2.out _ _ _ (hr i a v h1 hv))⟩
theorem Z1jy {A : Ar} (hA : A = ar) {L : List D} {x : Int} {n : Nat} (hx : IsI x n) (hn : n <= L.length) : A.sub2OK L 0 x /\ A.sub2 L 0 x = L.take n := by
 subst hA;have := hx.eq;subst this;refine ⟨⟨by decide, by omega, by omega⟩, ?_⟩;show (L.take ((n : Int)).toNat).drop (0 : Int).toNat = _;rw [Int.toNat_natCast]; rfl
structure LeN (a b : Nat) : Prop where
 le : a <= b
theorem wkEq {d d' : D} (h : d = d') : WkD d d' := h ▸ .rfl
end Go.Proofs.YthljpccegkmdnaaGreatDoor

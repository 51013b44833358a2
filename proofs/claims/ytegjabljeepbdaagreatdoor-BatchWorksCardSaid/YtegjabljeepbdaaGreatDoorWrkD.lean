/- Part WrkD of the proofs about the benches of the accordion maker: see the last text of the claim for what is proved. -/
import Derived.Test.YtegjabljeepbdaaGreatDoorRows
import Derived.ChangeSame
import Derived.ChangeVars
import Derived.ChangeSlices
import Derived.JoinedOf
import Derived.RowKit
import Derived.RowKitTokens
import Derived.LaidLaws
import Derived.LaidHandle
import Derived.Carry
import Derived.Stop.Joined
import Derived.Deep.Slices
import Derived.SizedLaws
import Derived.Test.YtegjabljeepbdaaGreatDoorRunG
import Derived.Test.YtegjabljeepbdaaGreatDoorRunK
import Derived.Test.YtegjabljeepbdaaGreatDoorRunJ
set_option linter.unusedVariables false
set_option linter.unusedSimpArgs false
set_option linter.unnecessarySimpa false
set_option linter.constructorNameAsVariable false

namespace Go.Proofs.YtegjabljeepbdaaGreatDoor
open Go Go.Abs Go.Proofs
open Go.ChangeShapes Go.WideShapes Go.RowKit
def Z1d5 (W : World) : Prop := W.cell? ⟨0, 0, none⟩ = some Zxj
def fzW (W : World) (hk : Z1d5 W) : Fz := ⟨fun b o => W.cell? ⟨b, o, none⟩, hk⟩
def mu0 : Mu := ⟨fun _ => none, fun _ _ => False⟩
theorem hr0 (W : World) (hk : Z1d5 W) : HR (fzW W hk) mu0 [] W where
 dom := fun _ _ => rfl
 row := fun k sz es h => by simp [Z17] at h
 plain := fun k y h => by simp [Z17] at h
 obj := fun k x h => by simp [Z13] at h
 non := fun k _ b h => h
 inj := fun k k' b h => by simp [Z20] at h
 lt := fun b ⟨k, h, _⟩ => by simp [Z20] at h
 frz := fun b o v h => ⟨h, fun ⟨k, h, _⟩ => by simp [Z20] at h⟩
 fr := fun k x h => by simp at h
theorem Zvt (W : World) (b : Nat) : ¬ Own mu0 [] b := fun ⟨k, h, _⟩ => by simp [Z20] at h
theorem Zj7 : Tryz.prog.cellsOf 3 = 1 := by kernel_rfl
set_option maxRecDepth 100000 in
theorem Zvu {H : Type} {enc : TypeId × Value -> H} {W : World} {hk : Z1d5 W} {base b0 : Nat} {spare : Nat -> Bool} {held : Bool} {v : Value} {d : DataW H} {ps : List MemPlace} (hval : Value.okWide Tryz.prog W .any b0 22 v) (h : DataW.Trod enc Tryz.prog W base spare held 22 v d ps) :
  ∃ nums : List Int, (nums.map I).length <= 9223372036854775807 /\ VR (fzW W hk) mu0 (.sl 1 (nums.map I)) v := by
 obtain ⟨fuel, hf⟩ := h;obtain ⟨a0, len, cap, rfl⟩ := okWide_slice Tryz.underlying22 hval;rcases open_ints Tryz.underlying22 Tryz.underlying3 Zj7 hf with ⟨hcs, -⟩ | ⟨a, len', cap', zs, hcs, -, hlc, hcm, hzl, -, hcell, -⟩
 ·simp [Value.cells] at hcs;obtain ⟨rfl, rfl, rfl⟩ := hcs;exact ⟨[], by simp, .cl _ _ (.slE _ _ _)⟩
 ·simp [Value.cells] at hcs;obtain ⟨rfl, rfl, rfl⟩ := hcs;have hle : len <= zs.length := by rw [hzl]; split <;> omega
  refine ⟨zs.take len, ?_, ?_⟩
  ·simp only [List.length_map, List.length_take];have : maxLen <= 9223372036854775807 := Nat.le_of_ble_eq_true rfl;omega
  ·cases hlen : len with
   | zero => simp only [List.take_zero, List.map_nil]; exact .cl _ _ (.slE _ _ _)
   | succ n =>
    have hsp : a.spot = none := by
     have := hcell 0 (by omega);simp only [Addr.add, if_true, World.cell?] at this
     split at this
     ·split at this
      ·cases this
      ·rename_i hs; simpa using hs
     ·cases this
    obtain ⟨b, o, sp⟩ := a;simp only at hsp;subst hsp;have hl2 : ((zs.take (n + 1)).map I).length = n + 1 := by simp; omega
    have key : ∀ i (e : D), ((zs.take (n + 1)).map I)[i]? = some e -> e = I (zs.getD i 0) /\ i < zs.length := fun i e he => by
     have hi := (List.getElem?_eq_some_iff.1 he).1;rw [hl2] at hi;have hz : i < zs.length := by omega
     rw [List.getElem?_map, List.getElem?_take, if_pos hi, List.getElem?_eq_getElem hz] at he;simp only [Option.map_some, Option.some.injEq] at he;refine ⟨?_, hz⟩;rw [<- he, List.getD_eq_getElem?_getD, List.getElem?_eq_getElem hz]; rfl
    have cell : ∀ i, i < zs.length -> W.cell? ⟨b, o + i * 1 + 0, none⟩ = some (.int .i64 (zs.getD i 0)) := fun i hi => by
     have := hcell i hi;unfold Addr.add at this
     split at this
     ·rename_i e; subst e; simpa using this
     ·simpa using this
    have fin := CR.sl (F := fzW W hk) 1 ((zs.take (n + 1)).map I) b o cap (fun i _ => .int .i64 (zs.getD i 0)) (by rw [hl2]; omega)
     (fun i e he => by rw [(key i e he).1]; rfl)
     (fun i e r c he hc => by
      obtain ⟨e1, hz⟩ := key i e he
      subst e1
      match r, hc with
      | 0, _ => exact ⟨cell i hz, rfl⟩
      | r + 1, hc => simp [D.cells, I] at hc)
     (fun i e r c he hc => by
      obtain ⟨e1, hz⟩ := key i e he
      subst e1
      match r, hc with
      | 0, hc => simp [D.cells, I] at hc; subst hc; exact .v _ rfl
      | r + 1, hc => simp [D.cells, I] at hc)
    rw [hl2] at fin;exact .cl _ _ fin
theorem own : ownKnob Tryz.prog.godebug = none := by kernel_rfl
theorem Zvv : laidOutB Tryz.prog = true := by kernel_rfl
noncomputable def Z1dg (os : Os) (args : Array Value) : World :=
 let w0 := World.holding Tryz.prog os ⟨#[], args, []⟩
 { w0 with heap := w0.heap.modify 0 fun
   | .cells _ t frozen => .cells #[.iface 221 (.agg #[.pointer (some ⟨1, 163, none⟩)])] t frozen
   | o => o }
def Z1dh : List (String × DataW Unit) := [("errors.errorType", Rows.laid_errors_errorType)]
theorem Z1db (os : Os) (args : Array Value) : laidMetH Tryz.prog Z1dh ((Z1dg os args).forCall (fun _ _ => 0) ⟨#[], args, []⟩).memory :=
 laidMetH_of_parts (laidMet_nil _ _) (by kernel_rfl)
theorem Z1e5 : Tryz.prog.globalNamed "errors.errorType" = some 0 := by kernel_rfl
theorem Z1e6 : (Tryz.prog.cutTypes.find? (·.1 == "internal/reflectlite.rtype")).map (·.2) = some 221 := by kernel_rfl
theorem Z1dx : ((List.range 266).filter fun t => Tryz.prog.rowNamed t [101, 114, 114, 111, 114]) = [163] := by kernel_rfl
theorem Z1dt : Tryz.prog.types.size = 266 := by kernel_rfl
theorem Z1di {W : World} (h : laidMetH Tryz.prog Z1dh W) : Z1d5 W := by
 have h' : laidMet Tryz.prog [] W /\ handlesMet Tryz.prog Z1dh W := h;obtain ⟨name, u, ty, e1, e2, e3, e4, e5⟩ := h'.2 _ (List.mem_singleton.2 rfl);have en : name = [101, 114, 114, 111, 114] := (Option.some.inj e1).symm;subst en;obtain rfl := Option.some.inj (Z1e6.symm.trans e2);have hm : ty ∈ (List.range 266).filter fun t => Tryz.prog.rowNamed t [101, 114, 114, 111, 114] := List.mem_filter.2 ⟨List.mem_range.2 (by rw [<- Z1dt]; exact e3), e4⟩;rw [Z1dx] at hm;obtain rfl := List.mem_singleton.1 hm;have hh : typeHandle Tryz.prog 163 = .pointer (some ⟨1, 163, none⟩) := by kernel_rfl
 rw [hh] at e5;show W.cell? ⟨0, 0, none⟩ = some Zxj;simpa [Zxj] using World.var?_cell Z1e5 e5 0
end Go.Proofs.YtegjabljeepbdaaGreatDoor

namespace Go.Proofs.YtegjabljeepbdaaGreatDoor
open Go Go.Abs Go.Proofs
open Bn (Sl Sh Tk Wk Z14v Z14z Z14x Fin)
open Go.ChangeShapes Go.WideShapes Go.RowKit
section
variable {H : Type} {enc : TypeId × Value -> H} {W : World} {hk : Z1d5 W} {base : Nat} {spare : Nat -> Bool} {held : Bool}
theorem Zlc {P : Program} {e : TypeId} : ∀ {l : List (DataW H)} {d : DataW H}, d ∈ l -> ∀ n ∈ d.weights P e, n ∈ DataW.weightsAll P e l
 | x :: l, d, hd, n, hn => by
  simp only [DataW.weightsAll, List.mem_append];rcases List.mem_cons.1 hd with rfl | hd
  ·exact .inl hn
  ·exact .inr (Zlc hd n hn)
theorem Zdp {P : Program} : ∀ {ts : List TypeId} {l : List (DataW H)} {j : Nat} {t : TypeId} {d : DataW H}, ts[j]? = some t -> l[j]? = some d -> ∀ n ∈ d.weights P t, n ∈ DataW.weightsEach P ts l := fun h1 h2 => DataW.weights_mem_each h1 h2
def Zld (t : TypeId) (d : DataW H) : Prop := ∀ n ∈ d.weights Tryz.prog t, n <= reachBytes
structure RdL (W : World) (hk : Z1d5 W) (cs : List Value) (ds : List D) : Prop where
 len : ds.length = cs.length
 cel : ∀ (r : Nat) (c : D), ds[r]? = some c -> ∃ v, cs[r]? = some v /\ v.oneCell' = true /\ CR (fzW W hk) c v
theorem RdL.app {cs cs' : List Value} {ds ds' : List D} (h : RdL W hk cs ds) (h' : RdL W hk cs' ds') : RdL W hk (cs ++ cs') (ds ++ ds') := ⟨by simp [h.len, h'.len], fun r c hc => by
 by_cases hr : r < ds.length
 ·rw [List.getElem?_append_left hr] at hc
  obtain ⟨v, h1, h2⟩ := h.cel r c hc
  exact ⟨v, by rw [List.getElem?_append_left (by rw [<- h.len]; exact hr)]; exact h1, h2⟩
 ·rw [List.getElem?_append_right (by omega)] at hc
  obtain ⟨v, h1, h2⟩ := h'.cel _ c hc
  exact ⟨v, by rw [List.getElem?_append_right (by rw [<- h.len]; omega), <- h.len]; exact h1, h2⟩⟩
theorem RdL.int (n : Int) : RdL W hk [.int .i64 n] [I n] := ⟨rfl, fun r c hc => by
 match r, hc with
 | 0, hc => simp at hc; subst hc; exact ⟨_, rfl, rfl, .v _ rfl⟩
 | r + 1, hc => simp at hc⟩
theorem RdL.one {v : Value} {d : D} (h1 : v.oneCell' = true) (h2 : CR (fzW W hk) d v) : RdL W hk [v] [d] := ⟨rfl, fun r c hc => by
 match r, hc with
 | 0, hc => simp at hc; subst hc; exact ⟨_, rfl, h1, h2⟩
 | r + 1, hc => simp at hc⟩
theorem Zle {t e : TypeId} {sz : Nat} (ht : Tryz.prog.underlying t = some (.slice e)) (hc : Tryz.prog.cellsOf e = sz) (hsz : 0 < sz) (hby : 0 < Tryz.prog.bytesOf e) {α : Type} (f : α -> D) (Pr : α -> Prop)
  (hel : ∀ n cs' x, DataW.trod enc Tryz.prog W base spare held n e cs' = some x -> Zld e x.1 -> ∃ a, RdL W hk cs' (f a).cells /\ Pr a) {fuel : Nat} {cs : List Value} {x : DataW H × List MemPlace}
  (h : DataW.trod enc Tryz.prog W base spare held fuel t cs = some x) (hw : Zld t x.1) : ∃ v l, cs = [v] /\ v.oneCell' = true /\ CR (fzW W hk) (.sl sz (List.map f l)) v /\ (∀ a ∈ l, Pr a) /\ l.length <= reachBytes := by
 rcases Go.Deep.open_slice ht h with ⟨rfl, rfl⟩ | ⟨a, len, cap, m, n, Dt, Pl, rfl, hb, hl, hm, hmm, rfl, hx⟩
 ·exact ⟨_, [], rfl, rfl, .slE _ _ _, fun a h => by simp at h, by simp⟩
 have hlm : len <= m := by rw [hmm]; split <;> omega
 have hlen : len <= reachBytes := by
  have := hw ((((List.range len).map Dt).length + ((List.range (m - len)).map fun j => Dt (len + j)).length) * Tryz.prog.bytesOf e) (by simp only [DataW.weights, ht]; exact List.mem_cons_self);simp only [List.length_map, List.length_range] at this;have h2 : (len + (m - len)) * 1 <= (len + (m - len)) * Tryz.prog.bytesOf e := Nat.mul_le_mul_left _ hby;omega
 have hlite : ∀ i, i < len -> Zld e (Dt i) := fun i hi n hn => hw n (by
  simp only [DataW.weights, ht]
  exact List.mem_cons_of_mem _ (List.mem_append_left _ (Zlc (List.mem_map.2 ⟨i, List.mem_range.2 hi, rfl⟩) n hn)))
 have each : ∀ i : _root_.Fin len, ∃ y : α × List Value, (∀ r, r < sz -> W.cell? ((a.add (i.1 * sz)).add r) = y.2[r]?) /\ y.2.length = sz /\ RdL W hk y.2 (f y.1).cells /\ Pr y.1 := fun i => by
  obtain ⟨cs', h1, h2⟩ := hx i.1 (by have := i.2; omega);obtain ⟨q, hq1, hq2⟩ := hel n cs' _ h2 (hlite i.1 i.2);rw [hc] at h1;obtain ⟨-, h4, h5⟩ := World.cells?_some h1;exact ⟨(q, cs'), h5, h4, hq1, hq2⟩
 let l : List α := (List.finRange len).map fun i => (Classical.choose (each i)).1
 have hget : ∀ j q, l[j]? = some q -> ∃ hj : j < len, q = (Classical.choose (each ⟨j, hj⟩)).1 := fun j q hj => by
  simp only [l, List.getElem?_map, Option.map_eq_some_iff] at hj;obtain ⟨r, hr, rfl⟩ := hj;obtain ⟨g1, g2⟩ := List.getElem?_eq_some_iff.1 hr;simp only [List.length_finRange] at g1;refine ⟨g1, ?_⟩;have : r = ⟨j, g1⟩ := by rw [<- g2]; simp
  rw [this]
 have hll : l.length = len := by simp [l]
 refine ⟨_, l, rfl, rfl, ?_, fun q hq => ?_, by rw [hll]; exact hlen⟩
 ·cases hle : len with
  | zero =>
   have : l = [] := List.eq_nil_of_length_eq_zero (by omega);rw [this]; exact .slE _ _ _
  | succ k =>
   have h0 : 0 < len := by omega
   obtain ⟨g1, g2, g3, -⟩ := Classical.choose_spec (each ⟨0, h0⟩);have hsp : a.spot = none := by
    have := g1 0 hsz;rw [List.getElem?_eq_getElem (by omega)] at this;simp only [Nat.zero_mul, Addr.add, if_true, World.cell?] at this
    split at this
    ·split at this
     ·cases this
     ·rename_i hs; simpa using hs
    ·cases this
   obtain ⟨b, o, sp⟩ := a;simp only at hsp;subst hsp;have cell : ∀ i (hi : i < len) r, r < sz -> W.cell? ⟨b, o + i * sz + r, none⟩ = (Classical.choose (each ⟨i, hi⟩)).2[r]? := fun i hi r hr => by
    have e : ((⟨b, o, none⟩ : Addr).add (i * sz)).add r = ⟨b, o + i * sz + r, none⟩ := by rw [add_lit, add_lit]
    have := (Classical.choose_spec (each ⟨i, hi⟩)).1 r hr;exact (congrArg W.cell? e).symm.trans this
   have fin := CR.sl (F := fzW W hk) sz (l.map f) b o cap (fun i r => (W.cell? ⟨b, o + i * sz + r, none⟩).getD undef) (by rw [List.length_map, hll]; omega)
    (fun i e he => by
     rw [List.getElem?_map] at he
     obtain ⟨q, hq, rfl⟩ := Option.map_eq_some_iff.1 he
     obtain ⟨hi, rfl⟩ := hget i q hq
     obtain ⟨-, k2, k3, -⟩ := Classical.choose_spec (each ⟨i, hi⟩)
     rw [k3.len, k2])
    (fun i e r c he hcc => by
     rw [List.getElem?_map] at he
     obtain ⟨q, hq, rfl⟩ := Option.map_eq_some_iff.1 he
     obtain ⟨hi, rfl⟩ := hget i q hq
     obtain ⟨-, k2, k3, -⟩ := Classical.choose_spec (each ⟨i, hi⟩)
     obtain ⟨v, v1, v2, v3⟩ := k3.cel r c hcc
     have hr : r < sz := by have := (List.getElem?_eq_some_iff.1 v1).1; omega
     have := cell i hi r hr
     rw [v1] at this
     show fzW W hk b _ = _ /\ _
     simp only [fzW, this, Option.getD_some]
     exact ⟨trivial, v2⟩)
    (fun i e r c he hcc => by
     rw [List.getElem?_map] at he
     obtain ⟨q, hq, rfl⟩ := Option.map_eq_some_iff.1 he
     obtain ⟨hi, rfl⟩ := hget i q hq
     obtain ⟨-, k2, k3, -⟩ := Classical.choose_spec (each ⟨i, hi⟩)
     obtain ⟨v, v1, v2, v3⟩ := k3.cel r c hcc
     have hr : r < sz := by have := (List.getElem?_eq_some_iff.1 v1).1; omega
     have := cell i hi r hr
     rw [v1] at this
     simp only [this, Option.getD_some]
     exact v3)
   rw [List.length_map, hll, hle] at fin;exact fin
 ·obtain ⟨j, hj⟩ := List.mem_iff_getElem?.1 hq;obtain ⟨hi, rfl⟩ := hget j q hj;exact (Classical.choose_spec (each ⟨j, hi⟩)).2.2.2
set_option maxRecDepth 100000 in
theorem Ztn {n : Nat} {cs : List Value} {x : DataW H × List MemPlace} (h : DataW.trod enc Tryz.prog W base spare held n 33 cs = some x) : ∃ lo hi, RdL W hk cs [I lo, I hi] := by
 obtain ⟨xs, k, -, -, hl, hxl, hf⟩ := DataW.trod_struct Tryz.underlying33 h;have c48 : Tryz.prog.cellsOf 33 = 2 := by kernel_rfl
 have c3 : Tryz.prog.cellsOf 3 = 1 := Zj7;rw [c48] at hl
 match cs, hl, xs, hxl with
 | [v0, v1], _, [y0, y1], _ =>
  have g0 := hf 0 _ rfl;have g1 := hf 1 _ rfl;simp [c3] at g0 g1;obtain ⟨a, ha, -⟩ := DataW.trod_int Tryz.underlying3 g0;obtain ⟨b, hb, -⟩ := DataW.trod_int Tryz.underlying3 g1
  cases ha; cases hb
  exact ⟨a, b, (RdL.int a).app (RdL.int b)⟩
set_option maxRecDepth 100000 in
theorem Z1dy {n : Nat} {cs : List Value} {x : DataW H × List MemPlace} (h : DataW.trod enc Tryz.prog W base spare held n 35 cs = some x) : ∃ w : Wk, RdL W hk cs (Z14x w).cells := by
 obtain ⟨xs, k, -, -, hl, hxl, hf⟩ := DataW.trod_struct Tryz.underlying35 h;have c57 : Tryz.prog.cellsOf 35 = 3 := by kernel_rfl
 have c48 : Tryz.prog.cellsOf 33 = 2 := by kernel_rfl
 have c3 : Tryz.prog.cellsOf 3 = 1 := Zj7;rw [c57] at hl
 match cs, hl, xs, hxl with
 | [v0, v1, v2], _, [y0, y1], _ =>
  have g0 := hf 0 _ rfl;have g1 := hf 1 _ rfl;simp [c3, c48] at g0 g1;obtain ⟨a, ha, -⟩ := DataW.trod_int Tryz.underlying3 g0;obtain ⟨lo, hi, hr⟩ := Ztn g1
  cases ha
  exact ⟨⟨a, lo, hi⟩, (RdL.int a).app hr⟩
set_option maxRecDepth 100000 in
theorem Z1dz {n : Nat} {cs : List Value} {x : DataW H × List MemPlace} (h : DataW.trod enc Tryz.prog W base spare held n 31 cs = some x) (hw : Zld 31 x.1) : ∃ t : Tk, RdL W hk cs (Z14z t).cells /\ t.works.length <= reachBytes := by
 obtain ⟨xs, k, -, hx, hl, hxl, hf⟩ := DataW.trod_struct Tryz.underlying31 h;have c55 : Tryz.prog.cellsOf 31 = 3 := by kernel_rfl
 have c53 : Tryz.prog.cellsOf 29 = 1 := by kernel_rfl
 have c3 : Tryz.prog.cellsOf 3 = 1 := Zj7;rw [c55] at hl;subst hx
 match cs, hl, xs, hxl, hw with
 | [v0, v1, v2], _, [y0, y1, y2], _, hw =>
  have g0 := hf 0 _ rfl;have g1 := hf 1 _ rfl;have g2 := hf 2 _ rfl;simp [c3, c53] at g0 g1 g2;obtain ⟨a, ha, -⟩ := DataW.trod_int Tryz.underlying3 g0;obtain ⟨b, hb, -⟩ := DataW.trod_int Tryz.underlying3 g1;have hw2 : Zld 29 y2.1 := fun n hn => hw n (by
   simp only [DataW.weights, Tryz.underlying31]
   exact Zdp (j := 2) rfl rfl n hn)
  obtain ⟨v, l, hv, v1, v2, -, v4⟩ := Zle (hk := hk) (e := 35) (sz := 3) Tryz.underlying29 (by kernel_rfl) (by decide) (of_decide_eq_true (by kernel_rfl)) Z14x (fun _ => True) (fun n cs' x h _ => let ⟨w, hw⟩ := Z1dy (hk := hk) h; ⟨w, hw, trivial⟩) g2 hw2
  cases ha; cases hb; cases hv
  exact ⟨⟨a, b, l⟩, ((RdL.int a).app (RdL.int b)).app (RdL.one v1 v2), v4⟩
set_option maxRecDepth 100000 in
theorem Z1e0 {n : Nat} {cs : List Value} {x : DataW H × List MemPlace} (h : DataW.trod enc Tryz.prog W base spare held n 27 cs = some x) (hw : Zld 27 x.1) : ∃ s : Sh, RdL W hk cs [I s.benches, .sl 3 (s.tasks.map Z14z)] /\ Fin s := by
 obtain ⟨xs, k, -, hx, hl, hxl, hf⟩ := DataW.trod_struct Tryz.underlying27 h;have c24 : Tryz.prog.cellsOf 27 = 2 := by kernel_rfl
 have c22 : Tryz.prog.cellsOf 25 = 1 := by kernel_rfl
 have c3 : Tryz.prog.cellsOf 3 = 1 := Zj7;rw [c24] at hl;subst hx
 match cs, hl, xs, hxl, hw with
 | [v0, v1], _, [y0, y1], _, hw =>
  have g0 := hf 0 _ rfl;have g1 := hf 1 _ rfl;simp [c3, c22] at g0 g1;obtain ⟨a, ha, -⟩ := DataW.trod_int Tryz.underlying3 g0;have hw2 : Zld 25 y1.1 := fun n hn => hw n (by
   simp only [DataW.weights, Tryz.underlying27]
   exact Zdp (j := 1) rfl rfl n hn)
  obtain ⟨v, l, hv, v1, v2, v3, v4⟩ := Zle (hk := hk) (e := 31) (sz := 3) Tryz.underlying25 (by kernel_rfl) (by decide) (of_decide_eq_true (by kernel_rfl)) Z14z (fun t => t.works.length <= reachBytes) (fun n cs' x h hw => Z1dz h hw) g1 hw2
  cases ha; cases hv
  have hb : reachBytes <= 1152921504606846976 := Nat.le_of_ble_eq_true rfl;exact ⟨⟨a, l⟩, (RdL.int a).app (RdL.one v1 v2), by show l.length <= _; omega, fun t ht => by have := v3 t ht; omega⟩
set_option maxRecDepth 100000 in
theorem Z1e1 {v : Value} {d : DataW H} {ps : List MemPlace} {b0 : Nat} (hval : Value.okWide Tryz.prog W .any b0 27 v) (h : DataW.Trod enc Tryz.prog W base spare held 27 v d ps) (hw : Zld 27 d) :
  ∃ s : Sh, Fin s /\ VR (fzW W hk) mu0 (.agg [I s.benches, .sl 3 (s.tasks.map Z14z)]) v := by
 obtain ⟨fuel, hf⟩ := h;obtain ⟨s, h1, h2⟩ := Z1e0 hf hw;have ha : ∃ cs, v = .agg cs := by
  unfold Value.okWide at hval;rw [Tryz.underlying27] at hval;obtain ⟨cs, h, -⟩ := hval;exact ⟨cs, h⟩
 obtain ⟨cs, rfl⟩ := ha;have hl := h1.len;simp only [Value.cells, Array.length_toList] at hl;refine ⟨s, h2, .cl _ _ (.agg _ _ hl (fun i c v hc hv => ?_) (fun i v hv => ?_))⟩
 ·obtain ⟨v', g1, g2, g3⟩ := h1.cel i c hc;simp only [Value.cells, Array.getElem?_toList] at g1;rw [hv] at g1; cases g1; exact g3
 ·have hi : i < 2 := by have := (Array.getElem?_eq_some_iff.1 hv).1; simp at hl; omega
  obtain ⟨v', g1, g2, g3⟩ := h1.cel i _ (List.getElem?_eq_getElem (by simpa using hi));simp only [Value.cells, Array.getElem?_toList] at g1;rw [hv] at g1; cases g1; exact g2
end
end Go.Proofs.YtegjabljeepbdaaGreatDoor

namespace Go.Proofs.YtegjabljeepbdaaGreatDoor
open Go Go.Abs Go.Proofs
open Bn (Sl Sh Tk Wk Z14v Z14z Z14x Fin)
open Go.ChangeShapes Go.WideShapes Go.RowKit
theorem Zhx {H : Type} {enc : TypeId × Value -> H} {W W' : World} (hb : Below W.heap.size W W') : ∀ (ts : List TypeId) (vs : List Value) (ds : List (DataW H)) (p : List MemPlace), (∀ t ∈ ts, Tryz.prog.readableRec t = true /\ t < Tryz.prog.types.size) -> (∀ x ∈ p, x.block < W.heap.size) ->
  DataW.TrodAll enc Tryz.prog W 0 (fun _ => true) true ts vs ds p -> DataW.TrodAll enc Tryz.prog W' 0 (fun b => decide (b < W.heap.size)) true ts vs ds p
 | [], [], [], p, _, _, h => h
 | t :: ts, v :: vs, d :: ds, p, ht, hp, h => by
  obtain ⟨p1, q1, h1, h2, rfl⟩ := h;have hh := ht t List.mem_cons_self;exact ⟨p1, q1, Below.trod Zvv hh.1 hh.2 h1 hb (fun x hx => hp x (List.mem_append_left _ hx)), Zhx hb ts vs ds q1 (fun t ht' => ht t (List.mem_cons_of_mem _ ht')) (fun x hx => hp x (List.mem_append_right _ hx)) h2, rfl⟩
 | [], _ :: _, _, _, _, _, h => by cases h
 | [], [], _ :: _, _, _, _, h => by cases h
 | _ :: _, [], _, _, _, _, h => by cases h
 | _ :: _, _ :: _, [], _, _, _, h => by cases h
theorem Ze8 {H : Type} {enc : TypeId × Value -> H} {P : Program} {w : World} {base : Nat} {spare : Nat -> Bool} {held : Bool} : ∀ (ts : List TypeId) (vs : List Value) (ds : List (DataW H)) (p : List MemPlace), DataW.TrodAll enc P w base spare held ts vs ds p -> vs.length = ts.length /\ ds.length = ts.length
 | [], [], [], _, _ => ⟨rfl, rfl⟩
 | t :: ts, v :: vs, d :: ds, _, h => by
  obtain ⟨p1, q1, h1, h2, -⟩ := h;obtain ⟨e1, e2⟩ := Ze8 ts vs ds q1 h2;exact ⟨by simp [e1], by simp [e2]⟩
 | [], _ :: _, _, _, h => by cases h
 | [], [], _ :: _, _, h => by cases h
 | _ :: _, [], _, _, h => by cases h
 | _ :: _, _ :: _, [], _, h => by cases h
def Zlf (fnum : FuncId) (ts : List TypeId) : Prop := ∀ {H : Type} {enc : TypeId × Value -> H} {W : World} {hk : Z1d5 W} {base : Nat} (vs : List Value) (ds : List (DataW H)) (p : List MemPlace), DataW.TrodAll enc Tryz.prog W 0 (fun _ => true) true ts vs ds p ->
 (∀ (j : Nat) t v, ts[j]? = some t -> vs[j]? = some v -> Value.okWide Tryz.prog W .any base t v) -> (∀ (j : Nat) t d, ts[j]? = some t -> ds[j]? = some d -> Zld t d) ->
 ∃ Ls : List D, Ls.length = vs.length /\ (∀ (i : Nat) (d : D) (v : Value), Ls[i]? = some d -> vs[i]? = some v -> VR (fzW W hk) mu0 d v) /\ ∀ Q, Q (RA.ret (.v (.bool true))) [] -> CallA Tryz.prog fnum Ls [] Q
set_option maxRecDepth 100000 in
theorem Ztp {fnum : FuncId} {fd : Func} {s : ChangeSpec} (ts : List TypeId) (hvars : s.vars = []) (hfn : ∀ (H : Type) (ds : List (DataW H)), ds.length = ts.length -> s.fn H (ds ++ []) = { results := [.lit (.bool true)], args := ds }) (hp : fd.params.toList = ts) (hrt : fd.resultTypes = #[4])
  (hts : ∀ t ∈ ts, Tryz.prog.readableRec t = true /\ t < Tryz.prog.types.size) (run : Zlf fnum ts)
  {H : Type} {enc : TypeId × Value -> H} {W : World} (hk : Z1d5 W) {base : Nat} {args : Array Value} {ds gs : List (DataW H)} {Z7o : List MemPlace}
  (hval0 : ∀ (j : Nat) t v, fd.params[j]? = some t -> args[j]? = some v -> Value.okWide Tryz.prog W .any base t v) (hW : DataW.Whole enc Tryz.prog fd.params.toList s.vars false W args.toList ds gs Z7o)
  (hsz : (DataW.weightsEach Tryz.prog (fd.params.toList ++ s.plain.varTypes Tryz.prog) (ds ++ gs)).all (· <= reachBytes) = true) :
  Calls Tryz.prog fnum args W fun e W' => ∃ v, e = .returned v /\ s.post enc Tryz.prog fd false true false false W args v W' := by
 have hW' := hW;obtain ⟨p, q, hA0, hV0, rfl, hfz, hnd⟩ := hW;have hA : DataW.TrodAll enc Tryz.prog W 0 (fun _ => true) true ts args.toList ds p := by rw [<- hp]; exact hA0
 obtain ⟨hlv, hld⟩ := Ze8 _ _ _ _ hA;have hV : DataW.TrodVars enc Tryz.prog W (fun _ => true) [] gs q := by rw [<- hvars]; exact hV0
 obtain ⟨rfl, rfl⟩ : gs = [] /\ q = [] := by
  cases gs with
  | nil => exact ⟨rfl, hV⟩
  | cons g r => exact absurd hV (by intro h; cases h)
 obtain ⟨Ls, l1, l2, l3⟩ := run args.toList ds p hA (fun j t v ht hv => hval0 j t v (by rw [<- hp] at ht; simpa using ht) (by simpa using hv)) (fun j t d ht hd n hn => by
  have := List.all_eq_true.1 hsz n (Zdp (j := j) (by rw [hp, List.getElem?_append_left (List.getElem?_eq_some_iff.1 ht).1]; exact ht) (by rw [List.getElem?_append_left (List.getElem?_eq_some_iff.1 hd).1]; exact hd) n hn)
  simpa using this)
 have hc := (l3 (fun x H' => x = .ret (.v (.bool true)) /\ H' = []) ⟨rfl, rfl⟩).out (fzW W hk) mu0 args W (hr0 W hk) (by rw [l1]; simp) (fun i d v hd hv' => l2 i d v hd (by simpa using hv'));refine (hc.calls (fun k => Zu5 none k)).mono fun e W' he => ?_
 cases e with
 | panicked ch => obtain ⟨_, _, _, _, _, _, _, _, h, _⟩ := he; cases h
 | outgrown => exact he.elim
 | returned v =>
  obtain ⟨F', μ', H', d, hs, hvr, hd, -⟩ := he
  cases hd
  obtain rfl := hvr.v_inv;have hb : Below W.heap.size W W' := ⟨hs.post.os, hs.post.tape, hs.post.output, hs.post.size, fun k hk => (hs.post.keep k hk (Zvt W k)).1⟩;have e1 := hfn H ds hld;refine ⟨_, rfl, ds, [], p ++ [], [], p, [], hW', ?_, ?_, ?_, ?_, fun h => by cases h⟩
  ·rw [e1, hrt]; exact trodAll_mk1 (shut_bool Tryz.underlying4 true)
  ·rw [e1, hp];exact Zhx hb ts _ _ _ hts (fun x hx => hW'.lt x (List.mem_append_left _ hx)) hA
  ·rw [e1, hvars]; rfl
  ·exact ⟨hb.os, hb.output, fun i hi => by
    rw [hb.block i hi]
    cases W.heap[i]? with
    | none => rfl
    | some o => cases o <;> first | rfl | exact ⟨rfl, rfl, rfl, fun _ _ => rfl⟩ | exact Or.inr ⟨rfl, rfl⟩⟩
end Go.Proofs.YtegjabljeepbdaaGreatDoor

namespace Go.Proofs.YtegjabljeepbdaaGreatDoor
open Go Go.Abs Go.Proofs Go.Batch
open Bn (Sh Tk Wk Z14v Z14z Z14x Fin)
open Go.ChangeShapes Go.WideShapes Go.RowKit
structure JFin (j : Jn) : Prop where
 f : j.first.length <= 1152921504606846976
 m : j.moves.length <= 1152921504606846976
section
variable {H : Type} {enc : TypeId × Value -> H} {W : World} {hk : Z1d5 W} {base : Nat} {spare : Nat -> Bool} {held : Bool}
set_option maxRecDepth 100000 in
theorem Zw2 {n : Nat} {cs : List Value} {x : DataW H × List MemPlace} (h : DataW.trod enc Tryz.prog W base spare held n 4 cs = some x) : ∃ b, RdL W hk cs (Zv b).cells := by
 obtain ⟨b, hb, -⟩ := DataW.trod_bool Tryz.underlying4 h
 cases hb
 exact ⟨b, RdL.one rfl (.v _ rfl)⟩
set_option maxRecDepth 100000 in
theorem Zp1 {n : Nat} {cs : List Value} {x : DataW H × List MemPlace} (h : DataW.trod enc Tryz.prog W base spare held n 44 cs = some x) : ∃ m : Mv, RdL W hk cs (mvD m).cells := by
 obtain ⟨xs, k, -, -, hl, hxl, hf⟩ := DataW.trod_struct Tryz.underlying44 h;have c29 : Tryz.prog.cellsOf 44 = 5 := by kernel_rfl
 have c27 : Tryz.prog.cellsOf 33 = 2 := by kernel_rfl
 have c3 : Tryz.prog.cellsOf 3 = 1 := Zj7;rw [c29] at hl
 match cs, hl, xs, hxl with
 | [v0, v1, v2, v3, v4], _, [y0, y1, y2, y3], _ =>
  have g0 := hf 0 _ rfl;have g1 := hf 1 _ rfl;have g2 := hf 2 _ rfl;have g3 := hf 3 _ rfl;simp [c3, c27] at g0 g1 g2 g3;obtain ⟨a, ha, -⟩ := DataW.trod_int Tryz.underlying3 g0;obtain ⟨b, hb, -⟩ := DataW.trod_int Tryz.underlying3 g1;obtain ⟨c, hc, -⟩ := DataW.trod_int Tryz.underlying3 g2;obtain ⟨lo, hi, hr⟩ := Ztn g3
  cases ha; cases hb; cases hc
  exact ⟨⟨a, b, c, lo, hi⟩, (((RdL.int a).app (RdL.int b)).app (RdL.int c)).app hr⟩
set_option maxRecDepth 100000 in
theorem Znl {n : Nat} {cs : List Value} {x : DataW H × List MemPlace} (h : DataW.trod enc Tryz.prog W base spare held n 40 cs = some x) (hw : Zld 40 x.1) : ∃ j : Jn, RdL W hk cs [I j.ins, .sl 1 (j.first.map Zv), .sl 5 (j.moves.map mvD)] /\ JFin j := by
 obtain ⟨xs, k, -, hx, hl, hxl, hf⟩ := DataW.trod_struct Tryz.underlying40 h;have c25 : Tryz.prog.cellsOf 40 = 3 := by kernel_rfl
 have c22 : Tryz.prog.cellsOf 37 = 1 := by kernel_rfl
 have c23 : Tryz.prog.cellsOf 38 = 1 := by kernel_rfl
 have c3 : Tryz.prog.cellsOf 3 = 1 := Zj7;rw [c25] at hl;subst hx
 match cs, hl, xs, hxl, hw with
 | [v0, v1, v2], _, [y0, y1, y2], _, hw =>
  have g0 := hf 0 _ rfl;have g1 := hf 1 _ rfl;have g2 := hf 2 _ rfl;simp [c3, c22, c23] at g0 g1 g2;obtain ⟨a, ha, -⟩ := DataW.trod_int Tryz.underlying3 g0;have hw1 : Zld 37 y1.1 := fun n hn => hw n (by
   simp only [DataW.weights, Tryz.underlying40]
   exact Zdp (j := 1) rfl rfl n hn)
  have hw2 : Zld 38 y2.1 := fun n hn => hw n (by
   simp only [DataW.weights, Tryz.underlying40]
   exact Zdp (j := 2) rfl rfl n hn)
  obtain ⟨v, l, hv, v1, v2, -, v4⟩ := Zle (e := 4) (sz := 1) Tryz.underlying37 (by kernel_rfl) (by decide) (of_decide_eq_true (by kernel_rfl)) Zv (fun _ => True) (fun n cs' x h _ => let ⟨w, hw⟩ := Zw2 (hk := hk) h; ⟨w, hw, trivial⟩) g1 hw1;obtain ⟨u, l', hu, u1, u2, -, u4⟩ := Zle (e := 44) (sz := 5) Tryz.underlying38 (by kernel_rfl) (by decide) (of_decide_eq_true (by kernel_rfl)) mvD (fun _ => True) (fun n cs' x h _ => let ⟨w, hw⟩ := Zp1 (hk := hk) h; ⟨w, hw, trivial⟩) g2 hw2
  cases ha; cases hv; cases hu
  have hb : reachBytes <= 1152921504606846976 := Nat.le_of_ble_eq_true rfl;exact ⟨⟨a, l, l'⟩, ((RdL.int a).app (RdL.one v1 v2)).app (RdL.one u1 u2), ⟨by show l.length <= _; omega, by show l'.length <= _; omega⟩⟩
theorem Zto {cs : List Value} {ds : List D} {v : Value} (h1 : RdL W hk cs ds) (hv : v = .agg cs.toArray) : VR (fzW W hk) mu0 (.agg ds) v := by
 subst hv;refine .cl _ _ (.agg _ _ (by simpa using h1.len) (fun i c v hc hv => ?_) (fun i v hv => ?_))
 ·obtain ⟨v', g1, g2, g3⟩ := h1.cel i c hc;have hv2 : cs[i]? = some v := by simpa using hv
  rw [hv2] at g1; cases g1; exact g3
 ·have hv2 : cs[i]? = some v := by simpa using hv
  have hi : i < ds.length := by rw [h1.len]; exact (List.getElem?_eq_some_iff.1 hv2).1
  obtain ⟨v', g1, g2, g3⟩ := h1.cel i _ (List.getElem?_eq_getElem hi);rw [hv2] at g1; cases g1; exact g2
set_option maxRecDepth 100000 in
theorem Znm {v : Value} {d : DataW H} {ps : List MemPlace} {b0 : Nat} (hval : Value.okWide Tryz.prog W .any b0 40 v) (h : DataW.Trod enc Tryz.prog W base spare held 40 v d ps) (hw : Zld 40 d) :
  ∃ j : Jn, JFin j /\ VR (fzW W hk) mu0 (.agg [I j.ins, .sl 1 (j.first.map Zv), .sl 5 (j.moves.map mvD)]) v := by
 obtain ⟨fuel, hf⟩ := h;obtain ⟨j, h1, h2⟩ := Znl hf hw;have ha : ∃ cs, v = .agg cs := by
  unfold Value.okWide at hval;rw [Tryz.underlying40] at hval;obtain ⟨cs, h, -⟩ := hval;exact ⟨cs, h⟩
 obtain ⟨cs, rfl⟩ := ha;exact ⟨j, h2, Zto h1 (by simp [Value.cells])⟩
end
set_option maxRecDepth 100000 in
theorem Z1ds {fnum : FuncId} (walk : ∀ (j : Jn) (FL ML : List D) (_ : FL = j.first.map Zv) (_ : ML = j.moves.map mvD) (s : Sh) (_ : Fin s) (TL : List D) (_ : TL = s.tasks.map Z14z) (pl : List Int) (_ : pl.length <= 9223372036854775807) (PL : List D) (_ : PL = pl.map I) (L : List D) (nums : List Int) (_ : L = nums.map I) (_ : L.length <= 9223372036854775807) (Q), Q (RA.ret (.v (.bool true))) [] -> CallA Tryz.prog fnum [.agg [I j.ins, .sl 1 FL, .sl 5 ML], .agg [I s.benches, .sl 3 TL], .sl 1 PL, .sl 1 L] [] Q) : Zlf fnum [40, 27, 22, 22] := by
 intro H enc W hk base vs ds p hA hval hlite;obtain ⟨v0, vs, d0, ds', p0, q0, rfl, rfl, rfl, h0, hA⟩ := trodAll_cons hA;obtain ⟨v1, vs, d1, ds', p1, q1, rfl, rfl, rfl, h1, hA⟩ := trodAll_cons hA;obtain ⟨v2, vs, d2, ds', p2, q2, rfl, rfl, rfl, h2, hA⟩ := trodAll_cons hA;obtain ⟨v3, vs, d3, ds', p3, q3, rfl, rfl, rfl, h3, hA⟩ := trodAll_cons hA;obtain ⟨rfl, rfl, rfl⟩ := trodAll_nil hA;obtain ⟨j, hj, k0⟩ := Znm (hk := hk) (hval 0 40 v0 rfl rfl) h0 (hlite 0 40 d0 rfl rfl);obtain ⟨s, hs, k1⟩ := Z1e1 (hk := hk) (hval 1 27 v1 rfl rfl) h1 (hlite 1 27 d1 rfl rfl);obtain ⟨n2, hl2, k2⟩ := Zvu (hk := hk) (hval 2 22 v2 rfl rfl) h2;obtain ⟨n3, hl3, k3⟩ := Zvu (hk := hk) (hval 3 22 v3 rfl rfl) h3;exact ⟨[.agg [I j.ins, .sl 1 (j.first.map Zv), .sl 5 (j.moves.map mvD)], .agg [I s.benches, .sl 3 (s.tasks.map Z14z)], .sl 1 (n2.map I), .sl 1 (n3.map I)], rfl, fun i d v hd hv => by
  match i, hd, hv with
  | 0, hd, hv => simp at hd hv; subst hd; subst hv; exact k0
  | 1, hd, hv => simp at hd hv; subst hd; subst hv; exact k1
  | 2, hd, hv => simp at hd hv; subst hd; subst hv; exact k2
  | 3, hd, hv => simp at hd hv; subst hd; subst hv; exact k3
  | i + 4, hd, hv => simp at hd, fun Q hq => walk j _ _ rfl rfl s hs _ rfl n2 (by simpa using hl2) _ rfl _ n3 rfl hl3 Q hq⟩
end Go.Proofs.YtegjabljeepbdaaGreatDoor

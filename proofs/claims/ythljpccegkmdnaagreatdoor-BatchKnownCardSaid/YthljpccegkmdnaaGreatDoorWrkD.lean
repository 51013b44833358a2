/- Part WrkD of the proofs about the benches of the accordion maker: see the last text of the claim for what is proved. -/
import Derived.Test.YthljpccegkmdnaaGreatDoorRows
import Derived.ChangeSame
import Derived.ChangeVars
import Derived.ChangeSlices
import Derived.JoinedOf
import Derived.RowKit
import Derived.RowKitTokens
import Derived.LaidLaws
import Derived.LaidHandle
import Derived.Carry
import Derived.Stop.Joined
import Derived.Deep.Slices
import Derived.SizedLaws
import Derived.Test.YthljpccegkmdnaaGreatDoorRunG
import Derived.Test.YthljpccegkmdnaaGreatDoorRunK
set_option linter.unusedVariables false
set_option linter.unusedSimpArgs false
set_option linter.unnecessarySimpa false
set_option linter.constructorNameAsVariable false

namespace Go.Proofs.YthljpccegkmdnaaGreatDoor
open Go Go.Abs Go.Proofs
open Go.ChangeShapes Go.WideShapes Go.RowKit
def Z1d5 (W : World) : Prop := W.cell? ⟨0, 0, none⟩ = some Zxj
def fzW (W : World) (hk : Z1d5 W) : Fz := ⟨fun b o => W.cell? ⟨b, o, none⟩, hk⟩
def mu0 : Mu := ⟨fun _ => none, fun _ _ => False⟩
theorem hr0 (W : World) (hk : Z1d5 W) : HR (fzW W hk) mu0 [] W where
 dom := fun _ _ => rfl
 row := fun k sz es h => by simp [Z17] at h
 plain := fun k y h => by simp [Z17] at h
 obj := fun k x h => by simp [Z13] at h
 non := fun k _ b h => h
 inj := fun k k' b h => by simp [Z20] at h
 lt := fun b ⟨k, h, _⟩ => by simp [Z20] at h
 frz := fun b o v h => ⟨h, fun ⟨k, h, _⟩ => by simp [Z20] at h⟩
 fr := fun k x h => by simp at h
theorem Zvt (W : World) (b : Nat) : ¬ Own mu0 [] b := fun ⟨k, h, _⟩ => by simp [Z20] at h
theorem own : ownKnob Tryz.prog.godebug = none := by kernel_rfl
theorem Zvv : laidOutB Tryz.prog = true := by kernel_rfl
def Z1dh : List (String × DataW Unit) := [("errors.errorType", Rows.laid_errors_errorType)]
theorem Z1e5 : Tryz.prog.globalNamed "errors.errorType" = some 0 := by kernel_rfl
theorem Z1e6 : (Tryz.prog.cutTypes.find? (·.1 == "internal/reflectlite.rtype")).map (·.2) = some 299 := by kernel_rfl
theorem Z1dx : ((List.range 370).filter fun t => Tryz.prog.rowNamed t [101, 114, 114, 111, 114]) = [207] := by kernel_rfl
theorem Z1dt : Tryz.prog.types.size = 370 := by kernel_rfl
end Go.Proofs.YthljpccegkmdnaaGreatDoor

namespace Go.Proofs.YthljpccegkmdnaaGreatDoor
open Go Go.Abs Go.Proofs
open Bn (Sl Sh Tk Wk Z14v taskD Z14x Fin)
open Go.ChangeShapes Go.WideShapes Go.RowKit
section
variable {H : Type} {enc : TypeId × Value -> H} {W : World} {hk : Z1d5 W} {base : Nat} {spare : Nat -> Bool} {held : Bool}
theorem Zdp {P : Program} : ∀ {ts : List TypeId} {l : List (DataW H)} {j : Nat} {t : TypeId} {d : DataW H}, ts[j]? = some t -> l[j]? = some d -> ∀ n ∈ d.weights P t, n ∈ DataW.weightsEach P ts l := fun h1 h2 => DataW.weights_mem_each h1 h2
def Zld (t : TypeId) (d : DataW H) : Prop := ∀ n ∈ d.weights Tryz.prog t, n <= reachBytes
structure RdL (W : World) (hk : Z1d5 W) (cs : List Value) (ds : List D) : Prop where
 len : ds.length = cs.length
 cel : ∀ (r : Nat) (c : D), ds[r]? = some c -> ∃ v, cs[r]? = some v /\ v.oneCell' = true /\ CR (fzW W hk) c v
theorem RdL.app {cs cs' : List Value} {ds ds' : List D} (h : RdL W hk cs ds) (h' : RdL W hk cs' ds') : RdL W hk (cs ++ cs') (ds ++ ds') := ⟨by simp [h.len, h'.len], fun r c hc => by
 by_cases hr : r < ds.length
 ·rw [List.getElem?_append_left hr] at hc
  obtain ⟨v, h1, h2⟩ := h.cel r c hc
  exact ⟨v, by rw [List.getElem?_append_left (by rw [<- h.len]; exact hr)]; exact h1, h2⟩
 ·rw [List.getElem?_append_right (by omega)] at hc
  obtain ⟨v, h1, h2⟩ := h'.cel _ c hc
  exact ⟨v, by rw [List.getElem?_append_right (by rw [<- h.len]; omega), <- h.len]; exact h1, h2⟩⟩
theorem RdL.int (n : Int) : RdL W hk [.int .i64 n] [I n] := ⟨rfl, fun r c hc => by
 match r, hc with
 | 0, hc => simp at hc; subst hc; exact ⟨_, rfl, rfl, .v _ rfl⟩
 | r + 1, hc => simp at hc⟩
theorem RdL.one {v : Value} {d : D} (h1 : v.oneCell' = true) (h2 : CR (fzW W hk) d v) : RdL W hk [v] [d] := ⟨rfl, fun r c hc => by
 match r, hc with
 | 0, hc => simp at hc; subst hc; exact ⟨_, rfl, h1, h2⟩
 | r + 1, hc => simp at hc⟩
end
end Go.Proofs.YthljpccegkmdnaaGreatDoor

namespace Go.Proofs.YthljpccegkmdnaaGreatDoor
open Go Go.Abs Go.Proofs
open Bn (Sl Sh Tk Wk Z14v taskD Z14x Fin)
open Go.ChangeShapes Go.WideShapes Go.RowKit
theorem Zhx {H : Type} {enc : TypeId × Value -> H} {W W' : World} (hb : Below W.heap.size W W') : ∀ (ts : List TypeId) (vs : List Value) (ds : List (DataW H)) (p : List MemPlace), (∀ t ∈ ts, Tryz.prog.readableRec t = true /\ t < Tryz.prog.types.size) -> (∀ x ∈ p, x.block < W.heap.size) ->
  DataW.TrodAll enc Tryz.prog W 0 (fun _ => true) true ts vs ds p -> DataW.TrodAll enc Tryz.prog W' 0 (fun b => decide (b < W.heap.size)) true ts vs ds p
 | [], [], [], p, _, _, h => h
 | t :: ts, v :: vs, d :: ds, p, ht, hp, h => by
  obtain ⟨p1, q1, h1, h2, rfl⟩ := h;have hh := ht t List.mem_cons_self;exact ⟨p1, q1, Below.trod Zvv hh.1 hh.2 h1 hb (fun x hx => hp x (List.mem_append_left _ hx)), Zhx hb ts vs ds q1 (fun t ht' => ht t (List.mem_cons_of_mem _ ht')) (fun x hx => hp x (List.mem_append_right _ hx)) h2, rfl⟩
 | [], _ :: _, _, _, _, _, h => by cases h
 | [], [], _ :: _, _, _, _, h => by cases h
 | _ :: _, [], _, _, _, _, h => by cases h
 | _ :: _, _ :: _, [], _, _, _, h => by cases h
theorem Ze8 {H : Type} {enc : TypeId × Value -> H} {P : Program} {w : World} {base : Nat} {spare : Nat -> Bool} {held : Bool} : ∀ (ts : List TypeId) (vs : List Value) (ds : List (DataW H)) (p : List MemPlace), DataW.TrodAll enc P w base spare held ts vs ds p -> vs.length = ts.length /\ ds.length = ts.length
 | [], [], [], _, _ => ⟨rfl, rfl⟩
 | t :: ts, v :: vs, d :: ds, _, h => by
  obtain ⟨p1, q1, h1, h2, -⟩ := h;obtain ⟨e1, e2⟩ := Ze8 ts vs ds q1 h2;exact ⟨by simp [e1], by simp [e2]⟩
 | [], _ :: _, _, _, h => by cases h
 | [], [], _ :: _, _, h => by cases h
 | _ :: _, [], _, _, h => by cases h
 | _ :: _, _ :: _, [], _, h => by cases h
def Zlf (fnum : FuncId) (ts : List TypeId) : Prop := ∀ {H : Type} {enc : TypeId × Value -> H} {W : World} {hk : Z1d5 W} {base : Nat} (vs : List Value) (ds : List (DataW H)) (p : List MemPlace), DataW.TrodAll enc Tryz.prog W 0 (fun _ => true) true ts vs ds p ->
 (∀ (j : Nat) t v, ts[j]? = some t -> vs[j]? = some v -> Value.okWide Tryz.prog W .any base t v) -> (∀ (j : Nat) t d, ts[j]? = some t -> ds[j]? = some d -> Zld t d) ->
 ∃ Ls : List D, Ls.length = vs.length /\ (∀ (i : Nat) (d : D) (v : Value), Ls[i]? = some d -> vs[i]? = some v -> VR (fzW W hk) mu0 d v) /\ ∀ Q, Q (RA.ret (.v (.bool true))) [] -> CallA Tryz.prog fnum Ls [] Q
set_option maxRecDepth 100000 in
theorem Ztp {fnum : FuncId} {fd : Func} {s : ChangeSpec} (ts : List TypeId) (hvars : s.vars = []) (hfn : ∀ (H : Type) (ds : List (DataW H)), ds.length = ts.length -> s.fn H (ds ++ []) = { results := [.lit (.bool true)], args := ds }) (hp : fd.params.toList = ts) (hrt : fd.resultTypes = #[4])
  (hts : ∀ t ∈ ts, Tryz.prog.readableRec t = true /\ t < Tryz.prog.types.size) (run : Zlf fnum ts)
  {H : Type} {enc : TypeId × Value -> H} {W : World} (hk : Z1d5 W) {base : Nat} {args : Array Value} {ds gs : List (DataW H)} {Z7o : List MemPlace}
  (hval0 : ∀ (j : Nat) t v, fd.params[j]? = some t -> args[j]? = some v -> Value.okWide Tryz.prog W .any base t v) (hW : DataW.Whole enc Tryz.prog fd.params.toList s.vars false W args.toList ds gs Z7o)
  (hsz : (DataW.weightsEach Tryz.prog (fd.params.toList ++ s.plain.varTypes Tryz.prog) (ds ++ gs)).all (· <= reachBytes) = true) :
  Calls Tryz.prog fnum args W fun e W' => ∃ v, e = .returned v /\ s.post enc Tryz.prog fd false true false false W args v W' := by
 have hW' := hW;obtain ⟨p, q, hA0, hV0, rfl, hfz, hnd⟩ := hW;have hA : DataW.TrodAll enc Tryz.prog W 0 (fun _ => true) true ts args.toList ds p := by rw [<- hp]; exact hA0
 obtain ⟨hlv, hld⟩ := Ze8 _ _ _ _ hA;have hV : DataW.TrodVars enc Tryz.prog W (fun _ => true) [] gs q := by rw [<- hvars]; exact hV0
 obtain ⟨rfl, rfl⟩ : gs = [] /\ q = [] := by
  cases gs with
  | nil => exact ⟨rfl, hV⟩
  | cons g r => exact absurd hV (by intro h; cases h)
 obtain ⟨Ls, l1, l2, l3⟩ := run args.toList ds p hA (fun j t v ht hv => hval0 j t v (by rw [<- hp] at ht; simpa using ht) (by simpa using hv)) (fun j t d ht hd n hn => by
  have := List.all_eq_true.1 hsz n (Zdp (j := j) (by rw [hp, List.getElem?_append_left (List.getElem?_eq_some_iff.1 ht).1]; exact ht) (by rw [List.getElem?_append_left (List.getElem?_eq_some_iff.1 hd).1]; exact hd) n hn)
  simpa using this)
 have hc := (l3 (fun x H' => x = .ret (.v (.bool true)) /\ H' = []) ⟨rfl, rfl⟩).out (fzW W hk) mu0 args W (hr0 W hk) (by rw [l1]; simp) (fun i d v hd hv' => l2 i d v hd (by simpa using hv'));refine (hc.calls (fun k => Zu5 none k)).mono fun e W' he => ?_
 cases e with
 | panicked ch => obtain ⟨_, _, _, _, _, _, _, _, h, _⟩ := he; cases h
 | outgrown => exact he.elim
 | returned v =>
  obtain ⟨F', μ', H', d, hs, hvr, hd, -⟩ := he
  cases hd
  obtain rfl := hvr.v_inv;have hb : Below W.heap.size W W' := ⟨hs.post.os, hs.post.tape, hs.post.output, hs.post.size, fun k hk => (hs.post.keep k hk (Zvt W k)).1⟩;have e1 := hfn H ds hld;refine ⟨_, rfl, ds, [], p ++ [], [], p, [], hW', ?_, ?_, ?_, ?_, fun h => by cases h⟩
  ·rw [e1, hrt]; exact trodAll_mk1 (shut_bool Tryz.underlying4 true)
  ·rw [e1, hp];exact Zhx hb ts _ _ _ hts (fun x hx => hW'.lt x (List.mem_append_left _ hx)) hA
  ·rw [e1, hvars]; rfl
  ·exact ⟨hb.os, hb.output, fun i hi => by
    rw [hb.block i hi]
    cases W.heap[i]? with
    | none => rfl
    | some o => cases o <;> first | rfl | exact ⟨rfl, rfl, rfl, fun _ _ => rfl⟩ | exact Or.inr ⟨rfl, rfl⟩⟩
end Go.Proofs.YthljpccegkmdnaaGreatDoor

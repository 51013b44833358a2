/- Part CloseA of the proofs about the benches of the accordion maker: see the last text of the claim for what is proved. -/
import Derived.Test.YtecfpfhkicapeaaRows
import Derived.ChangeSame
import Derived.ChangeVars
import Derived.ChangeSlices
import Derived.JoinedOf
import Derived.RowKit
import Derived.RowKitTokens
import Derived.Carry
import Derived.Test.YtecfpfhkicapeaaBatA
set_option linter.unusedVariables false
set_option linter.unusedSimpArgs false
set_option linter.unnecessarySimpa false
set_option linter.constructorNameAsVariable false

namespace Go.Proofs.Ytecfpfhkicapeaa
open Go Go.Abs Go.Proofs
open Go.ChangeShapes Go.WideShapes Go.RowKit
def fzW (W : World) : Fz := ⟨fun b o => W.cell? ⟨b, o, none⟩, trivial⟩
def mu0 : Mu := ⟨fun _ => none, fun _ _ => False⟩
theorem hr0 (W : World) : HR (fzW W) mu0 [] W where
 dom := fun _ _ => rfl
 row := fun k sz es h => by simp [Z17] at h
 plain := fun k y h => by simp [Z17] at h
 obj := fun k x h => by simp [Z13] at h
 non := fun k _ b h => h
 inj := fun k k' b h => by simp [Z20] at h
 lt := fun b ⟨k, h, _⟩ => by simp [Z20] at h
 frz := fun b o v h => ⟨h, fun ⟨k, h, _⟩ => by simp [Z20] at h⟩
 fr := fun k x h => by simp at h
theorem Zvt (W : World) (b : Nat) : ¬ Own mu0 [] b := fun ⟨k, h, _⟩ => by simp [Z20] at h
theorem Zj7 : Try.prog.cellsOf 3 = 1 := by kernel_rfl
set_option maxRecDepth 100000 in
theorem Zvu {H : Type} {enc : TypeId × Value -> H} {W : World} {base b0 : Nat} {spare : Nat -> Bool} {held : Bool} {v : Value} {d : DataW H} {ps : List MemPlace} (hval : Value.okWide Try.prog W .any b0 30 v) (h : DataW.Trod enc Try.prog W base spare held 30 v d ps) :
  ∃ nums : List Int, (nums.map I).length <= 9223372036854775807 /\ VR (fzW W) mu0 (.sl 1 (nums.map I)) v := by
 obtain ⟨fuel, hf⟩ := h;obtain ⟨a0, len, cap, rfl⟩ := okWide_slice Try.underlying30 hval;rcases open_ints Try.underlying30 Try.underlying3 Zj7 hf with ⟨hcs, -⟩ | ⟨a, len', cap', zs, hcs, -, hlc, hcm, hzl, -, hcell, -⟩
 ·simp [Value.cells] at hcs;obtain ⟨rfl, rfl, rfl⟩ := hcs;exact ⟨[], by simp, .cl _ _ (.slE _ _ _)⟩
 ·simp [Value.cells] at hcs;obtain ⟨rfl, rfl, rfl⟩ := hcs;have hle : len <= zs.length := by rw [hzl]; split <;> omega
  refine ⟨zs.take len, ?_, ?_⟩
  ·simp only [List.length_map, List.length_take];have : maxLen <= 9223372036854775807 := Nat.le_of_ble_eq_true rfl;omega
  ·cases hlen : len with
   | zero => simp only [List.take_zero, List.map_nil]; exact .cl _ _ (.slE _ _ _)
   | succ n =>
    have hsp : a.spot = none := by
     have := hcell 0 (by omega);simp only [Addr.add, if_true, World.cell?] at this
     split at this
     ·split at this
      ·cases this
      ·rename_i hs; simpa using hs
     ·cases this
    obtain ⟨b, o, sp⟩ := a;simp only at hsp;subst hsp;have hl2 : ((zs.take (n + 1)).map I).length = n + 1 := by simp; omega
    have key : ∀ i (e : D), ((zs.take (n + 1)).map I)[i]? = some e -> e = I (zs.getD i 0) /\ i < zs.length := fun i e he => by
     have hi := (List.getElem?_eq_some_iff.1 he).1;rw [hl2] at hi;have hz : i < zs.length := by omega
     rw [List.getElem?_map, List.getElem?_take, if_pos hi, List.getElem?_eq_getElem hz] at he;simp only [Option.map_some, Option.some.injEq] at he;refine ⟨?_, hz⟩;rw [<- he, List.getD_eq_getElem?_getD, List.getElem?_eq_getElem hz]; rfl
    have cell : ∀ i, i < zs.length -> W.cell? ⟨b, o + i * 1 + 0, none⟩ = some (.int .i64 (zs.getD i 0)) := fun i hi => by
     have := hcell i hi;unfold Addr.add at this
     split at this
     ·rename_i e; subst e; simpa using this
     ·simpa using this
    have fin := CR.sl (F := fzW W) 1 ((zs.take (n + 1)).map I) b o cap (fun i _ => .int .i64 (zs.getD i 0)) (by rw [hl2]; omega)
     (fun i e he => by rw [(key i e he).1]; rfl)
     (fun i e r c he hc => by
      obtain ⟨e1, hz⟩ := key i e he
      subst e1
      match r, hc with
      | 0, _ => exact ⟨cell i hz, rfl⟩
      | r + 1, hc => simp [D.cells, I] at hc)
     (fun i e r c he hc => by
      obtain ⟨e1, hz⟩ := key i e he
      subst e1
      match r, hc with
      | 0, hc => simp [D.cells, I] at hc; subst hc; exact .v _ rfl
      | r + 1, hc => simp [D.cells, I] at hc)
    rw [hl2] at fin;exact .cl _ _ fin
theorem own : ownKnob Try.prog.godebug = none := by kernel_rfl
theorem Zvv : laidOutB Try.prog = true := by kernel_rfl
set_option maxRecDepth 100000 in
theorem Z11q {fnum : FuncId} {fd : Func} {s : ChangeSpec} (hvars : s.vars = []) (hfn : ∀ (H : Type) (d : DataW H), s.fn H ([d] ++ []) = { results := [.lit (.bool true)], args := [d] }) (hp : fd.params = #[30]) (hrt : fd.resultTypes = #[4])
  (walk : ∀ (L : List D) (nums : List Int), L = nums.map I -> L.length <= 9223372036854775807 -> ∀ Q, Q (RA.ret (.v (.bool true))) [] -> CallA Try.prog fnum [.sl 1 L] [] Q)
  {H : Type} {enc : TypeId × Value -> H} {W : World} {base : Nat} {args : Array Value} {ds gs : List (DataW H)} {Z7o : List MemPlace}
  (hval0 : ∀ (j : Nat) t v, fd.params[j]? = some t -> args[j]? = some v -> Value.okWide Try.prog W .any base t v) (hW : DataW.Whole enc Try.prog fd.params.toList s.vars false W args.toList ds gs Z7o) :
  Calls Try.prog fnum args W fun e W' => ∃ v, e = .returned v /\ s.post enc Try.prog fd false true false false W args v W' := by
 have hW' := hW;obtain ⟨p, q, hA0, hV0, rfl, hfz, hnd⟩ := hW;have hA : DataW.TrodAll enc Try.prog W 0 (fun _ => true) true fd.params.toList args.toList ds p := hA0;have hval := hval0;rw [hp] at hA hval;obtain ⟨v0, d0, rfl, rfl, h0⟩ := trodAll_one hA;have hV : DataW.TrodVars enc Try.prog W (fun _ => true) [] gs q := by rw [<- hvars]; exact hV0
 obtain ⟨rfl, rfl⟩ : gs = [] /\ q = [] := by
  cases gs with
  | nil => exact ⟨rfl, hV⟩
  | cons g r => exact absurd hV (by intro h; cases h)
 obtain ⟨nums, hl, hv⟩ := Zvu (hval 0 30 v0 rfl rfl) h0;have hc := (walk _ nums rfl hl (fun x H' => x = .ret (.v (.bool true)) /\ H' = []) ⟨rfl, rfl⟩).out (fzW W) mu0 #[v0] W (hr0 W) rfl (fun i d v hd hv' => by
  match i, hd, hv' with
  | 0, hd, hv' => simp at hd hv'; subst hd; subst hv'; exact hv)
 refine (hc.calls (fun k => Zu5 none k)).mono fun e W' he => ?_
 cases e with
 | panicked ch => obtain ⟨_, _, _, _, _, _, _, _, h, _⟩ := he; cases h
 | outgrown => exact he.elim
 | returned v =>
  obtain ⟨F', μ', H', d, hs, hvr, hd, -⟩ := he
  cases hd
  obtain rfl := hvr.v_inv;have hb : Below W.heap.size W W' := ⟨hs.post.os, hs.post.tape, hs.post.output, hs.post.size, fun k hk => (hs.post.keep k hk (Zvt W k)).1⟩;have e1 := hfn H d0;refine ⟨_, rfl, [d0], [], p ++ [], [], p, [], hW', ?_, ?_, ?_, ?_, fun h => by cases h⟩
  ·rw [e1, hrt]; exact trodAll_mk1 (shut_bool Try.underlying4 true)
  ·rw [e1, hp];exact trodAll_mk1 (Below.trod Zvv (by kernel_rfl) (of_decide_eq_true (by kernel_rfl)) h0 hb (fun x hx => hW'.lt x (List.mem_append_left _ hx)))
  ·rw [e1, hvars]; rfl
  ·exact ⟨hb.os, hb.output, fun i hi => by
    rw [hb.block i hi]
    cases W.heap[i]? with
    | none => rfl
    | some o => cases o <;> first | rfl | exact ⟨rfl, rfl, rfl, fun _ _ => rfl⟩ | exact Or.inr ⟨rfl, rfl⟩⟩
end Go.Proofs.Ytecfpfhkicapeaa

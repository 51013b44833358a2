/- Part TxAT of the proofs about the benches of the accordion maker: see the last text of the claim for what is proved. -/
import Derived.Deep.Slices
import Derived.SizedLaws
import Derived.Lib.SplitLaws
import Derived.Lib.ItoaNum
import Derived.Lib.AtoiAll
import Derived.Lib.SlTrimSet
import Derived.Test.YthljpccegkmdnaaGreatDoorTxAS
import Derived.Test.YthljpccegkmdnaaGreatDoorTxAQ
set_option linter.unusedVariables false
set_option linter.unusedSimpArgs false
set_option linter.unnecessarySimpa false
set_option linter.constructorNameAsVariable false

namespace Go.Proofs.YthljpccegkmdnaaGreatDoor.Bn
open Go Go.Abs Go.Proofs
theorem Z16j {b : Int} {l : List Wk} {k : Nat} {w : Wk} (h : l[k]? = some w) : Z156 b (l.drop k) = if chkW b w = 0 then Z156 b (l.drop (k + 1)) else chkW b w := by
 rw [drop_at h]; rfl
set_option maxRecDepth 20000 in
set_option maxHeartbeats 2000000 in
theorem Z17e (b : Int) (hb : 1 <= b /\ b <= 3) (t : Tk) (TL WL : List D) (hW : WL = t.works.map Z14x) (hlen : t.works.length <= 1152921504606846976) (n : Int) (hn : n = chkT b t) (Q) (hq : Q (RA.ret (I n)) []) :
  CallA Tryz.prog 133 [.agg [I b, .sl 3 TL], .agg [I t.ready, I t.due, .sl 3 WL]] [] Q := by
 obtain ⟨A, hA⟩ : ∃ A, A = ar := ⟨_, rfl⟩;have hWl : WL.length = t.works.length := by rw [hW]; simp
 obtain ⟨b1, hb1⟩ : ∃ x, x = decide (0 <= t.ready /\ t.ready <= 200) := ⟨_, rfl⟩;obtain ⟨b2, hb2⟩ : ∃ x, x = decide (0 <= t.due /\ t.due <= 200) := ⟨_, rfl⟩;refine Z5 Z0 hA Tryz.func133 rfl rfl rfl rfl rfl fun S hS => ?_;cbv;refine Z4 hS [I t.ready, I 0, I 200] [] [] rfl rfl rfl rfl rfl rfl rfl rfl (by decide) trivial (bWith _ _ _ b1 hb1 _ ?_);refine Z3 Z0 hA hS ?_;cbv
 split
 ·rename_i c1
  have hz : n = 1 := by rw [hn, chkT, amg, <- hb1, if_pos (xnot hA c1)]
  rw [hz] at hq;cbv;refine Zg (f := 0) hS rfl rfl rfl rfl rfl rfl rfl rfl (fun e => Bool.noConfusion e) (fun _ => ?_);refine Z3 Z0 hA hS ?_;cbv;exact Z2 [] (by decide) Z9 (H' := []) (d' := I 1) trivial rfl (Z1 hq)
 rename_i c1
 have d1 := xnnot hA c1;cbv;refine Zg hS rfl rfl rfl rfl rfl rfl rfl rfl (fun _ => ⟨_, _, [I t.due, I 0, I 200], [], [], rfl, rfl, rfl, by decide, trivial, bWith _ _ _ b2 hb2 _ ?_⟩) (fun e => absurd rfl e);refine Z3 Z0 hA hS ?_;cbv
 split
 ·rename_i c2
  have hz : n = 1 := by rw [hn, chkT, amg, <- hb1, d1, if_neg (by decide), amg, <- hb2, if_pos (xnot hA c2)]
  rw [hz] at hq;cbv;exact Z2 [] (by decide) Z9 (H' := []) (d' := I 1) trivial rfl (Z1 hq)
 rename_i c2
 have d2 := xnnot hA c2;have hn1 : n = if t.works = [] then 7 else Z156 b t.works := by rw [hn, chkT, amg, <- hb1, d1, if_neg (by decide), amg, <- hb2, d2, if_neg (by decide)]
 cbv
 split
 ·rename_i c3
  have hz : n = 7 := by
   have := yeqL hA hWl c3;rw [hn1, if_pos];exact List.eq_nil_of_length_eq_zero (by omega)
  rw [hz] at hq;cbv;exact Z2 [] (by decide) Z9 (H' := []) (d' := I 7) trivial rfl (Z1 hq)
 rename_i c3
 have hn2 : n = Z156 b (t.works.drop 0) := by
  rw [hn1, if_neg]; rfl;intro e;have := yneqL hA hWl c3;rw [e] at this;exact this rfl
 cbv;refine Zb hS ?_;refine Za (α := Int × Nat) (fun q => { env := [(2, .b 0 0), (3, .b 1 0), (22, .sl 3 WL), (23, I (A.oi (A.len WL))), (24, I q.1)], H := [.box (.agg [I b, .sl 3 TL]), .box (.agg [I t.ready, I t.due, .sl 3 WL])], nt := 58, dfs := [] })
  (fun q => t.works.length - q.2) (fun q => q.2 <= t.works.length /\ IsI q.1 q.2 /\ n = Z156 b (t.works.drop q.2)) (0, 0) ⟨Nat.zero_le _, ⟨rfl⟩, hn2⟩ ?_ ?_
 ·exact Zf [0, 1] ⟨by decide, Z9, ⟨rfl, rfl, trivial⟩, ⟨rfl, rfl, rfl, rfl, rfl, trivial⟩, rfl, rfl⟩
 rintro ⟨i, k⟩ ⟨u1, u2, u3⟩;dsimp only at u1 u2 u3;refine Zi Z0 hA hS ?_;cbv
 split
 ·rename_i c
  have hk : k < t.works.length := Z31 hA hWl u2 c;obtain ⟨w, hw⟩ : ∃ w, w = t.works[k] := ⟨_, rfl⟩;have hwk : t.works[k]? = some w := by rw [hw]; exact List.getElem?_eq_getElem hk
  have hWk : WL[k]? = some (.agg [I w.b, I w.lo, I w.hi]) := by rw [hW]; simp [hwk, Z14x]
  rw [Z16j hwk] at u3;obtain ⟨b3, hb3⟩ : ∃ x, x = decide (0 <= w.b /\ w.b <= b - 1) := ⟨_, rfl⟩;obtain ⟨b4, hb4⟩ : ∃ x, x = decide (1 <= w.lo /\ w.lo <= 20) := ⟨_, rfl⟩;obtain ⟨b5, hb5⟩ : ∃ x, x = decide (1 <= w.hi /\ w.hi <= 20) := ⟨_, rfl⟩;have hb3' : b3 = decide (0 <= w.b /\ w.b <= A.sub b 1) := by rw [Z24 hA]; exact hb3
  have hf : A.fits .i64 (A.sub b 1) := Z14 hA (Z24 hA b 1) (by omega);have hf2 : A.fits .i64 (A.add i 1) ∨ True := .inr trivial;cbv;refine ⟨Z1b hA hWl u2 hk, ⟨_, Z18 hA u2 hWk, ?_⟩⟩;cbv;refine ⟨hf, ?_⟩;refine Z4 hS [I w.b, I 0, I (A.sub b 1)] [] [] rfl rfl rfl rfl rfl rfl rfl rfl (by decide) trivial (bWith _ _ _ b3 hb3' _ ?_);refine Z3 Z0 hA hS ?_;cbv
  split
  ·rename_i c4
   have hz : n = 3 := by
    have e : chkW b w = 3 := by rw [chkW, amg, <- hb3, if_pos (xnot hA c4)]
    rw [u3, e]; rfl
   rw [hz] at hq;cbv;refine Z7 ?_;cbv;exact Z2 [] (by decide) Z9 (H' := []) (d' := I 3) trivial rfl (Z1 hq)
  rename_i c4
  have d4 := xnnot hA c4;cbv;refine Z4 hS [I w.lo, I 1, I 20] [] [] rfl rfl rfl rfl rfl rfl rfl rfl (by decide) trivial (bWith _ _ _ b4 hb4 _ ?_);refine Z3 Z0 hA hS ?_;cbv
  split
  ·rename_i c5
   have hz : n = 1 := by
    have e : chkW b w = 1 := by rw [chkW, amg, <- hb3, d4, if_neg (by decide), amg, <- hb4, if_pos (xnot hA c5)]
    rw [u3, e]; rfl
   rw [hz] at hq;cbv;refine Zg (f := 0) hS rfl rfl rfl rfl rfl rfl rfl rfl (fun e => Bool.noConfusion e) (fun _ => ?_);refine Z3 Z0 hA hS ?_;cbv;refine Z7 ?_;cbv;exact Z2 [] (by decide) Z9 (H' := []) (d' := I 1) trivial rfl (Z1 hq)
  rename_i c5
  have d5 := xnnot hA c5;cbv;refine Zg hS rfl rfl rfl rfl rfl rfl rfl rfl (fun _ => ⟨_, _, [I w.hi, I 1, I 20], [], [], rfl, rfl, rfl, by decide, trivial, bWith _ _ _ b5 hb5 _ ?_⟩) (fun e => absurd rfl e);refine Z3 Z0 hA hS ?_;cbv
  split
  ·rename_i c6
   have hz : n = 1 := by
    have e : chkW b w = 1 := by rw [chkW, amg, <- hb3, d4, if_neg (by decide), amg, <- hb4, d5, if_neg (by decide), amg, <- hb5, if_pos (xnot hA c6)]
    rw [u3, e]; rfl
   rw [hz] at hq;cbv;refine Z7 ?_;cbv;exact Z2 [] (by decide) Z9 (H' := []) (d' := I 1) trivial rfl (Z1 hq)
  rename_i c6
  have d6 := xnnot hA c6;have e6 : chkW b w = if w.hi < w.lo then 5 else 0 := by rw [chkW, amg, <- hb3, d4, if_neg (by decide), amg, <- hb4, d5, if_neg (by decide), amg, <- hb5, d6, if_neg (by decide)]
  cbv
  split
  ·rename_i c7
   have hz : n = 5 := by
    have e : w.hi < w.lo := xgt hA c7;rw [if_pos e] at e6;rw [u3, e6]; rfl
   rw [hz] at hq;cbv;refine Z7 ?_;cbv;exact Z2 [] (by decide) Z9 (H' := []) (d' := I 5) trivial rfl (Z1 hq)
  rename_i c7
  have e7 : chkW b w = 0 := by
   have e : w.lo <= w.hi := Zax hA c7;rw [e6, if_neg (by omega)]
  rw [if_pos e7] at u3;cbv;refine ⟨Zy hA u2 (by have := Z31 hA hWl u2 c; have := hlen; omega), ?_⟩;refine Z8 (A.add i 1, k + 1) [0, 1] ⟨hk, Zz hA u2, u3⟩ (by simp only; omega) ?_;exact ⟨by decide, Z9, ⟨rfl, rfl, trivial⟩, ⟨rfl, rfl, rfl, rfl, rfl, trivial⟩, rfl, rfl⟩
 ·rename_i c
  have hk : t.works.length <= k := Z21 hA hWl u2 c;have hz : n = 0 := by rw [u3, List.drop_eq_nil_of_le hk]; rfl
  rw [hz] at hq;cbv;refine Z7 ?_;cbv;exact Z2 [] (by decide) Z9 (H' := []) (d' := I 0) trivial rfl (Z1 hq)
end Go.Proofs.YthljpccegkmdnaaGreatDoor.Bn

namespace Go.Proofs.YthljpccegkmdnaaGreatDoor.Bn
open Go Go.Abs Go.Proofs
theorem Z16k {b : Int} {l : List Tk} {k : Nat} {t : Tk} (h : l[k]? = some t) : Z157 b (l.drop k) = if chkT b t = 0 then Z157 b (l.drop (k + 1)) else chkT b t := by
 rw [drop_at h]; rfl
def Fin (s : Sh) : Prop := s.tasks.length <= 1152921504606846976 /\ ∀ t ∈ s.tasks, t.works.length <= 1152921504606846976
set_option maxRecDepth 20000 in
set_option maxHeartbeats 2000000 in
theorem bCheck (s : Sh) (hs : Fin s) (TL : List D) (hT : TL = s.tasks.map Z14z) (n : Int) (hn : n = Za5 s) (Q) (hq : Q (RA.ret (I n)) []) :
  CallA Tryz.prog 93 [.agg [I s.benches, .sl 3 TL]] [] Q := by
 obtain ⟨A, hA⟩ : ∃ A, A = ar := ⟨_, rfl⟩;have hTl : TL.length = s.tasks.length := by rw [hT]; simp
 obtain ⟨b1, hb1⟩ : ∃ x, x = decide (1 <= s.benches /\ s.benches <= 3) := ⟨_, rfl⟩;refine Z5 Z0 hA Tryz.func93 rfl rfl rfl rfl rfl fun S hS => ?_;cbv;refine Z4 hS [I s.benches, I 1, I 3] [] [] rfl rfl rfl rfl rfl rfl rfl rfl (by decide) trivial (bWith _ _ _ b1 hb1 _ ?_);refine Z3 Z0 hA hS ?_;cbv
 split
 ·rename_i c1
  have hz : n = 1 := by rw [hn, Za5, amg, <- hb1, if_pos (xnot hA c1)]
  rw [hz] at hq;cbv;exact Z2 [] (by decide) Z9 (H' := []) (d' := I 1) trivial rfl (Z1 hq)
 rename_i c1
 have d1 := xnnot hA c1;have hbb : 1 <= s.benches /\ s.benches <= 3 := by rw [d1] at hb1; exact of_decide_eq_true hb1.symm
 have hn1 : n = if 4 < s.tasks.length then 6 else if Z157 s.benches s.tasks = 0 then (if 8 < Z1cw s.tasks then 6 else 0) else Z157 s.benches s.tasks := by
  rw [hn, Za5, amg, <- hb1, d1, if_neg (by decide)]
 cbv
 split
 ·rename_i c2
  have hz : n = 6 := by have := ygtL hA hTl c2; rw [hn1, if_pos (by omega)]
  rw [hz] at hq;cbv;exact Z2 [] (by decide) Z9 (H' := []) (d' := I 6) trivial rfl (Z1 hq)
 rename_i c2
 have h4 : s.tasks.length <= 4 := by have := yngtL hA hTl c2; omega
 rw [if_neg (by omega)] at hn1;obtain ⟨z, hz⟩ : ∃ z : Int, z = if 8 < Z1cw s.tasks then 6 else 0 := ⟨_, rfl⟩
 rw [<- hz] at hn1;cbv;refine Zb hS ?_;refine Za (α := Int × Nat) (fun q => { env := [(1, .b 0 0), (15, .sl 3 TL), (16, I (A.oi (A.len TL))), (17, I q.1)], H := [.box (.agg [I s.benches, .sl 3 TL])], nt := 31, dfs := [] })
  (fun q => s.tasks.length - q.2) (fun q => q.2 <= s.tasks.length /\ IsI q.1 q.2 /\ n = if Z157 s.benches (s.tasks.drop q.2) = 0 then z else Z157 s.benches (s.tasks.drop q.2)) (0, 0) ⟨Nat.zero_le _, ⟨rfl⟩, hn1⟩ ?_ ?_
 ·exact Zf [0] ⟨by decide, Z9, ⟨rfl, trivial⟩, ⟨rfl, rfl, rfl, rfl, trivial⟩, rfl, rfl⟩
 rintro ⟨i, k⟩ ⟨u1, u2, u3⟩;dsimp only at u1 u2 u3;refine Zi Z0 hA hS ?_;cbv
 split
 ·rename_i c
  have hk : k < s.tasks.length := Z31 hA hTl u2 c;obtain ⟨t, ht⟩ : ∃ t, t = s.tasks[k] := ⟨_, rfl⟩;have htk : s.tasks[k]? = some t := by rw [ht]; exact List.getElem?_eq_getElem hk
  have htm := List.mem_of_getElem? htk;obtain ⟨WL, hWL⟩ : ∃ WL, WL = t.works.map Z14x := ⟨_, rfl⟩;have hTk : TL[k]? = some (.agg [I t.ready, I t.due, .sl 3 WL]) := by rw [hT]; simp [htk, hWL, Z14z]
  rw [Z16k htk] at u3;obtain ⟨e, he⟩ : ∃ e, e = chkT s.benches t := ⟨_, rfl⟩;rw [<- he] at u3;cbv;refine ⟨Z1b hA hTl u2 hk, ⟨_, Z18 hA u2 hTk, ?_⟩⟩;cbv;refine Z4 hS [.agg [I s.benches, .sl 3 TL], .agg [I t.ready, I t.due, .sl 3 WL]] [] [] rfl rfl rfl rfl rfl rfl rfl rfl (by decide) trivial (Z17e _ hbb t TL WL hWL (hs.2 t htm) e he _ ?_);refine Z3 Z0 hA hS ?_;cbv
  split
  ·rename_i c3
   have e3 := xne hA c3;have hz : n = e := by rw [u3, if_neg e3, if_neg e3]
   rw [hz] at hq;cbv;refine Z7 ?_;cbv;exact Z2 [] (by decide) Z9 (H' := []) (d' := I e) trivial rfl (Z1 hq)
  rename_i c3
  have e3 : e = 0 := Z4t hA c3;rw [if_pos e3] at u3;cbv;refine ⟨Zy hA u2 (by omega), ?_⟩;refine Z8 (A.add i 1, k + 1) [0] ⟨hk, Zz hA u2, u3⟩ (by simp only; omega) ?_;exact ⟨by decide, Z9, ⟨rfl, trivial⟩, ⟨rfl, rfl, rfl, rfl, trivial⟩, rfl, rfl⟩
 ·rename_i c
  have hk : s.tasks.length <= k := Z21 hA hTl u2 c;rw [List.drop_eq_nil_of_le hk] at u3;have u4 : n = z := u3;obtain ⟨nw, hnw⟩ : ∃ x, IsI x (Z1cw s.tasks) := ⟨_, ⟨rfl⟩⟩;cbv;refine Z7 ?_;cbv;refine Z4 hS [.agg [I s.benches, .sl 3 TL]] [] [] rfl rfl rfl rfl rfl rfl rfl rfl (by decide) trivial (Z18d s TL hT h4 hs.2 nw hnw _ ?_);refine Z3 Z0 hA hS ?_;cbv
  split
  ·rename_i c5
   have e5 := xgt hA c5;have hw := hnw.eq;rw [if_pos (by omega)] at hz;rw [u4, hz] at hq;cbv;exact Z2 [] (by decide) Z9 (H' := []) (d' := I 6) trivial rfl (Z1 hq)
  ·rename_i c5
   have e5 := Zax hA c5;have hw := hnw.eq;rw [if_neg (by omega)] at hz;rw [u4, hz] at hq;cbv;exact Z2 [] (by decide) Z9 (H' := []) (d' := I 0) trivial rfl (Z1 hq)
end Go.Proofs.YthljpccegkmdnaaGreatDoor.Bn

namespace Go.Proofs.YthljpccegkmdnaaGreatDoor
open Go Go.Abs Go.Proofs
open Bn (Sl Sh Tk Wk Z14v Z14z Z14x Fin)
open Go.ChangeShapes Go.WideShapes Go.RowKit
section
variable {H : Type} {enc : TypeId × Value -> H} {W : World} {hk : KnowW W} {base : Nat} {spare : Nat -> Bool} {held : Bool}
theorem Zlc {P : Program} {e : TypeId} : ∀ {l : List (DataW H)} {d : DataW H}, d ∈ l -> ∀ n ∈ d.weights P e, n ∈ DataW.weightsAll P e l
 | x :: l, d, hd, n, hn => by
  simp only [DataW.weightsAll, List.mem_append];rcases List.mem_cons.1 hd with rfl | hd
  ·exact .inl hn
  ·exact .inr (Zlc hd n hn)
theorem Zdp {P : Program} : ∀ {ts : List TypeId} {l : List (DataW H)} {j : Nat} {t : TypeId} {d : DataW H}, ts[j]? = some t -> l[j]? = some d -> ∀ n ∈ d.weights P t, n ∈ DataW.weightsEach P ts l := fun h1 h2 => DataW.weights_mem_each h1 h2
def Zld (t : TypeId) (d : DataW H) : Prop := ∀ n ∈ d.weights Tryz.prog t, n <= reachBytes
structure RdL (W : World) (hk : KnowW W) (cs : List Value) (ds : List D) : Prop where
 len : ds.length = cs.length
 cel : ∀ (r : Nat) (c : D), ds[r]? = some c -> ∃ v, cs[r]? = some v /\ v.oneCell' = true /\ CR (fzW W hk) c v
theorem RdL.app {cs cs' : List Value} {ds ds' : List D} (h : RdL W hk cs ds) (h' : RdL W hk cs' ds') : RdL W hk (cs ++ cs') (ds ++ ds') := ⟨by simp [h.len, h'.len], fun r c hc => by
 by_cases hr : r < ds.length
 ·rw [List.getElem?_append_left hr] at hc
  obtain ⟨v, h1, h2⟩ := h.cel r c hc
  exact ⟨v, by rw [List.getElem?_append_left (by rw [<- h.len]; exact hr)]; exact h1, h2⟩
 ·rw [List.getElem?_append_right (by omega)] at hc
  obtain ⟨v, h1, h2⟩ := h'.cel _ c hc
  exact ⟨v, by rw [List.getElem?_append_right (by rw [<- h.len]; omega), <- h.len]; exact h1, h2⟩⟩
theorem RdL.int (n : Int) : RdL W hk [.int .i64 n] [I n] := ⟨rfl, fun r c hc => by
 match r, hc with
 | 0, hc => simp at hc; subst hc; exact ⟨_, rfl, rfl, .v _ rfl⟩
 | r + 1, hc => simp at hc⟩
theorem RdL.one {v : Value} {d : D} (h1 : v.oneCell' = true) (h2 : CR (fzW W hk) d v) : RdL W hk [v] [d] := ⟨rfl, fun r c hc => by
 match r, hc with
 | 0, hc => simp at hc; subst hc; exact ⟨_, rfl, h1, h2⟩
 | r + 1, hc => simp at hc⟩
theorem Zle {t e : TypeId} {sz : Nat} (ht : Tryz.prog.underlying t = some (.slice e)) (hc : Tryz.prog.cellsOf e = sz) (hsz : 0 < sz) (hby : 0 < Tryz.prog.bytesOf e) {α : Type} (f : α -> D) (Pr : α -> Prop)
  (hel : ∀ n cs' x, DataW.trod enc Tryz.prog W base spare held n e cs' = some x -> Zld e x.1 -> ∃ a, RdL W hk cs' (f a).cells /\ Pr a) {fuel : Nat} {cs : List Value} {x : DataW H × List MemPlace}
  (h : DataW.trod enc Tryz.prog W base spare held fuel t cs = some x) (hw : Zld t x.1) : ∃ v l, cs = [v] /\ v.oneCell' = true /\ CR (fzW W hk) (.sl sz (List.map f l)) v /\ (∀ a ∈ l, Pr a) /\ l.length <= reachBytes := by
 rcases Go.Deep.open_slice ht h with ⟨rfl, rfl⟩ | ⟨a, len, cap, m, n, Dt, Pl, rfl, hb, hl, hm, hmm, rfl, hx⟩
 ·exact ⟨_, [], rfl, rfl, .slE _ _ _, fun a h => by simp at h, by simp⟩
 have hlm : len <= m := by rw [hmm]; split <;> omega
 have hlen : len <= reachBytes := by
  have := hw ((((List.range len).map Dt).length + ((List.range (m - len)).map fun j => Dt (len + j)).length) * Tryz.prog.bytesOf e) (by simp only [DataW.weights, ht]; exact List.mem_cons_self);simp only [List.length_map, List.length_range] at this;have h2 : (len + (m - len)) * 1 <= (len + (m - len)) * Tryz.prog.bytesOf e := Nat.mul_le_mul_left _ hby;omega
 have hlite : ∀ i, i < len -> Zld e (Dt i) := fun i hi n hn => hw n (by
  simp only [DataW.weights, ht]
  exact List.mem_cons_of_mem _ (List.mem_append_left _ (Zlc (List.mem_map.2 ⟨i, List.mem_range.2 hi, rfl⟩) n hn)))
 have each : ∀ i : _root_.Fin len, ∃ y : α × List Value, (∀ r, r < sz -> W.cell? ((a.add (i.1 * sz)).add r) = y.2[r]?) /\ y.2.length = sz /\ RdL W hk y.2 (f y.1).cells /\ Pr y.1 := fun i => by
  obtain ⟨cs', h1, h2⟩ := hx i.1 (by have := i.2; omega);obtain ⟨q, hq1, hq2⟩ := hel n cs' _ h2 (hlite i.1 i.2);rw [hc] at h1;obtain ⟨-, h4, h5⟩ := World.cells?_some h1;exact ⟨(q, cs'), h5, h4, hq1, hq2⟩
 let l : List α := (List.finRange len).map fun i => (Classical.choose (each i)).1
 have hget : ∀ j q, l[j]? = some q -> ∃ hj : j < len, q = (Classical.choose (each ⟨j, hj⟩)).1 := fun j q hj => by
  simp only [l, List.getElem?_map, Option.map_eq_some_iff] at hj;obtain ⟨r, hr, rfl⟩ := hj;obtain ⟨g1, g2⟩ := List.getElem?_eq_some_iff.1 hr;simp only [List.length_finRange] at g1;refine ⟨g1, ?_⟩;have : r = ⟨j, g1⟩ := by rw [<- g2]; simp
  rw [this]
 have hll : l.length = len := by simp [l]
 refine ⟨_, l, rfl, rfl, ?_, fun q hq => ?_, by rw [hll]; exact hlen⟩
 ·cases hle : len with
  | zero =>
   have : l = [] := List.eq_nil_of_length_eq_zero (by omega);rw [this]; exact .slE _ _ _
  | succ k =>
   have h0 : 0 < len := by omega
   obtain ⟨g1, g2, g3, -⟩ := Classical.choose_spec (each ⟨0, h0⟩);have hsp : a.spot = none := by
    have := g1 0 hsz;rw [List.getElem?_eq_getElem (by omega)] at this;simp only [Nat.zero_mul, Addr.add, if_true, World.cell?] at this
    split at this
    ·split at this
     ·cases this
     ·rename_i hs; simpa using hs
    ·cases this
   obtain ⟨b, o, sp⟩ := a;simp only at hsp;subst hsp;have cell : ∀ i (hi : i < len) r, r < sz -> W.cell? ⟨b, o + i * sz + r, none⟩ = (Classical.choose (each ⟨i, hi⟩)).2[r]? := fun i hi r hr => by
    have e : ((⟨b, o, none⟩ : Addr).add (i * sz)).add r = ⟨b, o + i * sz + r, none⟩ := by rw [add_lit, add_lit]
    have := (Classical.choose_spec (each ⟨i, hi⟩)).1 r hr;exact (congrArg W.cell? e).symm.trans this
   have fin := CR.sl (F := fzW W hk) sz (l.map f) b o cap (fun i r => (W.cell? ⟨b, o + i * sz + r, none⟩).getD undef) (by rw [List.length_map, hll]; omega)
    (fun i e he => by
     rw [List.getElem?_map] at he
     obtain ⟨q, hq, rfl⟩ := Option.map_eq_some_iff.1 he
     obtain ⟨hi, rfl⟩ := hget i q hq
     obtain ⟨-, k2, k3, -⟩ := Classical.choose_spec (each ⟨i, hi⟩)
     rw [k3.len, k2])
    (fun i e r c he hcc => by
     rw [List.getElem?_map] at he
     obtain ⟨q, hq, rfl⟩ := Option.map_eq_some_iff.1 he
     obtain ⟨hi, rfl⟩ := hget i q hq
     obtain ⟨-, k2, k3, -⟩ := Classical.choose_spec (each ⟨i, hi⟩)
     obtain ⟨v, v1, v2, v3⟩ := k3.cel r c hcc
     have hr : r < sz := by have := (List.getElem?_eq_some_iff.1 v1).1; omega
     have := cell i hi r hr
     rw [v1] at this
     show fzW W hk b _ = _ /\ _
     simp only [fzW, this, Option.getD_some]
     exact ⟨trivial, v2⟩)
    (fun i e r c he hcc => by
     rw [List.getElem?_map] at he
     obtain ⟨q, hq, rfl⟩ := Option.map_eq_some_iff.1 he
     obtain ⟨hi, rfl⟩ := hget i q hq
     obtain ⟨-, k2, k3, -⟩ := Classical.choose_spec (each ⟨i, hi⟩)
     obtain ⟨v, v1, v2, v3⟩ := k3.cel r c hcc
     have hr : r < sz := by have := (List.getElem?_eq_some_iff.1 v1).1; omega
     have := cell i hi r hr
     rw [v1] at this
     simp only [this, Option.getD_some]
     exact v3)
   rw [List.length_map, hll, hle] at fin;exact fin
 ·obtain ⟨j, hj⟩ := List.mem_iff_getElem?.1 hq;obtain ⟨hi, rfl⟩ := hget j q hj;exact (Classical.choose_spec (each ⟨j, hi⟩)).2.2.2
set_option maxRecDepth 100000 in
theorem Ztn {n : Nat} {cs : List Value} {x : DataW H × List MemPlace} (h : DataW.trod enc Tryz.prog W base spare held n 28 cs = some x) : ∃ lo hi, RdL W hk cs [I lo, I hi] := by
 obtain ⟨xs, k, -, -, hl, hxl, hf⟩ := DataW.trod_struct Tryz.underlying28 h;have c48 : Tryz.prog.cellsOf 28 = 2 := by kernel_rfl
 have c3 : Tryz.prog.cellsOf 3 = 1 := Zj7;rw [c48] at hl
 match cs, hl, xs, hxl with
 | [v0, v1], _, [y0, y1], _ =>
  have g0 := hf 0 _ rfl;have g1 := hf 1 _ rfl;simp [c3] at g0 g1;obtain ⟨a, ha, -⟩ := DataW.trod_int Tryz.underlying3 g0;obtain ⟨b, hb, -⟩ := DataW.trod_int Tryz.underlying3 g1
  cases ha; cases hb
  exact ⟨a, b, (RdL.int a).app (RdL.int b)⟩
end
end Go.Proofs.YthljpccegkmdnaaGreatDoor

namespace Go.Proofs.YthljpccegkmdnaaGreatDoor
open Go Go.Abs Go.Proofs
open Bn (Sl Sh Tk Wk Z14v Z14z Z14x Fin)
open Go.ChangeShapes Go.WideShapes Go.RowKit
theorem Zhx {H : Type} {enc : TypeId × Value -> H} {W W' : World} (hb : Below W.heap.size W W') : ∀ (ts : List TypeId) (vs : List Value) (ds : List (DataW H)) (p : List MemPlace), (∀ t ∈ ts, Tryz.prog.readableRec t = true /\ t < Tryz.prog.types.size) -> (∀ x ∈ p, x.block < W.heap.size) ->
  DataW.TrodAll enc Tryz.prog W 0 (fun _ => true) true ts vs ds p -> DataW.TrodAll enc Tryz.prog W' 0 (fun b => decide (b < W.heap.size)) true ts vs ds p
 | [], [], [], p, _, _, h => h
 | t :: ts, v :: vs, d :: ds, p, ht, hp, h => by
  obtain ⟨p1, q1, h1, h2, rfl⟩ := h;have hh := ht t List.mem_cons_self;exact ⟨p1, q1, Below.trod Zvv hh.1 hh.2 h1 hb (fun x hx => hp x (List.mem_append_left _ hx)), Zhx hb ts vs ds q1 (fun t ht' => ht t (List.mem_cons_of_mem _ ht')) (fun x hx => hp x (List.mem_append_right _ hx)) h2, rfl⟩
 | [], _ :: _, _, _, _, _, h => by cases h
 | [], [], _ :: _, _, _, _, h => by cases h
 | _ :: _, [], _, _, _, _, h => by cases h
 | _ :: _, _ :: _, [], _, _, _, h => by cases h
theorem Ze8 {H : Type} {enc : TypeId × Value -> H} {P : Program} {w : World} {base : Nat} {spare : Nat -> Bool} {held : Bool} : ∀ (ts : List TypeId) (vs : List Value) (ds : List (DataW H)) (p : List MemPlace), DataW.TrodAll enc P w base spare held ts vs ds p -> vs.length = ts.length /\ ds.length = ts.length
 | [], [], [], _, _ => ⟨rfl, rfl⟩
 | t :: ts, v :: vs, d :: ds, _, h => by
  obtain ⟨p1, q1, h1, h2, -⟩ := h;obtain ⟨e1, e2⟩ := Ze8 ts vs ds q1 h2;exact ⟨by simp [e1], by simp [e2]⟩
 | [], _ :: _, _, _, h => by cases h
 | [], [], _ :: _, _, h => by cases h
 | _ :: _, [], _, _, h => by cases h
 | _ :: _, _ :: _, [], _, h => by cases h
def Zlf (fnum : FuncId) (ts : List TypeId) : Prop := ∀ {H : Type} {enc : TypeId × Value -> H} {W : World} {hk : KnowW W} {base : Nat} (vs : List Value) (ds : List (DataW H)) (p : List MemPlace), DataW.TrodAll enc Tryz.prog W 0 (fun _ => true) true ts vs ds p ->
 (∀ (j : Nat) t v, ts[j]? = some t -> vs[j]? = some v -> Value.okWide Tryz.prog W .any base t v) -> (∀ (j : Nat) t d, ts[j]? = some t -> ds[j]? = some d -> Zld t d) ->
 ∃ Ls : List D, Ls.length = vs.length /\ (∀ (i : Nat) (d : D) (v : Value), Ls[i]? = some d -> vs[i]? = some v -> VR (fzW W hk) mu0 d v) /\ ∀ Q, Q (RA.ret (.v (.bool true))) [] -> CallA Tryz.prog fnum Ls [] Q
set_option maxRecDepth 100000 in
theorem Ztp {fnum : FuncId} {fd : Func} {s : ChangeSpec} (ts : List TypeId) (hvars : s.vars = []) (hfn : ∀ (H : Type) (ds : List (DataW H)), ds.length = ts.length -> s.fn H (ds ++ []) = { results := [.lit (.bool true)], args := ds }) (hp : fd.params.toList = ts) (hrt : fd.resultTypes = #[4])
  (hts : ∀ t ∈ ts, Tryz.prog.readableRec t = true /\ t < Tryz.prog.types.size) (run : Zlf fnum ts)
  {H : Type} {enc : TypeId × Value -> H} {W : World} (hk : KnowW W) {base : Nat} {args : Array Value} {ds gs : List (DataW H)} {before : List MemPlace}
  (hval0 : ∀ (j : Nat) t v, fd.params[j]? = some t -> args[j]? = some v -> Value.okWide Tryz.prog W .any base t v) (hW : DataW.Whole enc Tryz.prog fd.params.toList s.vars false W args.toList ds gs before)
  (hsz : (DataW.weightsEach Tryz.prog (fd.params.toList ++ s.plain.varTypes Tryz.prog) (ds ++ gs)).all (· <= reachBytes) = true) :
  Calls Tryz.prog fnum args W fun e W' => ∃ v, e = .returned v /\ s.post enc Tryz.prog fd false true false false W args v W' := by
 have hW' := hW;obtain ⟨p, q, hA0, hV0, rfl, hfz, hnd⟩ := hW;have hA : DataW.TrodAll enc Tryz.prog W 0 (fun _ => true) true ts args.toList ds p := by rw [<- hp]; exact hA0
 obtain ⟨hlv, hld⟩ := Ze8 _ _ _ _ hA;have hV : DataW.TrodVars enc Tryz.prog W (fun _ => true) [] gs q := by rw [<- hvars]; exact hV0
 obtain ⟨rfl, rfl⟩ : gs = [] /\ q = [] := by
  cases gs with
  | nil => exact ⟨rfl, hV⟩
  | cons g r => exact absurd hV (by intro h; cases h)
 obtain ⟨Ls, l1, l2, l3⟩ := run args.toList ds p hA (fun j t v ht hv => hval0 j t v (by rw [<- hp] at ht; simpa using ht) (by simpa using hv)) (fun j t d ht hd n hn => by
  have := List.all_eq_true.1 hsz n (Zdp (j := j) (by rw [hp, List.getElem?_append_left (List.getElem?_eq_some_iff.1 ht).1]; exact ht) (by rw [List.getElem?_append_left (List.getElem?_eq_some_iff.1 hd).1]; exact hd) n hn)
  simpa using this)
 have hc := (l3 (fun x H' => x = .ret (.v (.bool true)) /\ H' = []) ⟨rfl, rfl⟩).out (fzW W hk) mu0 args W (hr0 W hk) (by rw [l1]; simp) (fun i d v hd hv' => l2 i d v hd (by simpa using hv'));refine (hc.calls (fun k => Zu5 none k)).mono fun e W' he => ?_
 cases e with
 | panicked ch => obtain ⟨_, _, _, _, _, _, _, _, h, _⟩ := he; cases h
 | outgrown => exact he.elim
 | returned v =>
  obtain ⟨F', μ', H', d, hs, hvr, hd, -⟩ := he
  cases hd
  obtain rfl := hvr.v_inv;have hb : Below W.heap.size W W' := ⟨hs.post.os, hs.post.tape, hs.post.output, hs.post.size, fun k hk => (hs.post.keep k hk (Zvt W k)).1⟩;have e1 := hfn H ds hld;refine ⟨_, rfl, ds, [], p ++ [], [], p, [], hW', ?_, ?_, ?_, ?_, fun h => by cases h⟩
  ·rw [e1, hrt]; exact trodAll_mk1 (shut_bool Tryz.underlying4 true)
  ·rw [e1, hp];exact Zhx hb ts _ _ _ hts (fun x hx => hW'.lt x (List.mem_append_left _ hx)) hA
  ·rw [e1, hvars]; rfl
  ·exact ⟨hb.os, hb.output, fun i hi => by
    rw [hb.block i hi]
    cases W.heap[i]? with
    | none => rfl
    | some o => cases o <;> first | rfl | exact ⟨rfl, rfl, rfl, fun _ _ => rfl⟩ | exact Or.inr ⟨rfl, rfl⟩⟩
end Go.Proofs.YthljpccegkmdnaaGreatDoor

namespace Go.Txt
open Go
abbrev By := List UInt8
def dig (c : UInt8) : Bool := decide (48 <= c.toNat) && decide (c.toNat <= 57)
def dgv (c : UInt8) : Int := (c.toNat : Int) - 48
def numB : By -> Option Int
 | [a] => if dig a then some (dgv a) else none
 | [a, b] => if a ≠ 48 /\ dig a /\ dig b then some (10 * dgv a + dgv b) else none
 | [a, b, c] => if a ≠ 48 /\ dig a /\ dig b /\ dig c then some (10 * (10 * dgv a + dgv b) + dgv c) else none
 | _ => none
theorem Z1gp {c : UInt8} : dig c = true ↔ 48 <= c.toNat /\ c.toNat <= 57 := by simp [dig]
theorem Z1hu {a : UInt8} {n : Nat} (h : a.toNat = n) : UInt8.ofNat n = a := by subst h; simp
theorem Z1hm {a b : UInt8} : a ≠ b ↔ a.toNat ≠ b.toNat := by rw [ne_eq, ne_eq, UInt8.toNat_inj]
theorem t48 : (48 : UInt8).toNat = 48 := rfl
theorem dd3 {n : Nat} (h1 : ¬ n < 100) (h2 : n < 1000) : Lib.decDigits n = [UInt8.ofNat (48 + n / 100), UInt8.ofNat (48 + n / 10 % 10), UInt8.ofNat (48 + n % 10)] := by
 rw [Lib.decDigits, dif_neg (by omega), Lib.decDigits_two (by omega) (by omega)];rw [Nat.div_div_eq_div_mul]; rfl
theorem toNat_of {n : Nat} (h : n < 256) : (UInt8.ofNat n).toNat = n := by simp; omega
theorem Z1j2 {n : Int} (h0 : 0 <= n) (h1 : n <= 999) : numB (Lib.itoa n) = some n := by
 obtain ⟨k, rfl⟩ : ∃ k : Nat, n = k := ⟨n.toNat, by omega⟩;unfold Lib.itoa;rw [if_neg (by omega), Int.toNat_natCast]
 by_cases a : k < 10
 ·rw [Lib.decDigits_one a];simp only [numB, Z1gp, dgv, toNat_of (show 48 + k < 256 by omega)];rw [if_pos (by omega)]; congr 1; omega
 by_cases b : k < 100
 ·rw [Lib.decDigits_two a b];simp only [numB, Z1gp, dgv, Z1hm, t48, toNat_of (show 48 + k / 10 < 256 by omega), toNat_of (show 48 + k % 10 < 256 by omega)];rw [if_pos (by omega)]; congr 1; omega
 ·rw [dd3 b (by omega)];simp only [numB, Z1gp, dgv, Z1hm, t48, toNat_of (show 48 + k / 100 < 256 by omega), toNat_of (show 48 + k / 10 % 10 < 256 by omega), toNat_of (show 48 + k % 10 < 256 by omega)];rw [if_pos (by omega)]; congr 1; omega
theorem Z1j3 {n : Int} (h0 : 0 <= n) (h1 : n <= 999) : 1 <= (Lib.itoa n).length /\ (Lib.itoa n).length <= 3 := by
 obtain ⟨k, rfl⟩ : ∃ k : Nat, n = k := ⟨n.toNat, by omega⟩;unfold Lib.itoa;rw [if_neg (by omega), Int.toNat_natCast]
 by_cases a : k < 10
 ·rw [Lib.decDigits_one a]; simp
 by_cases b : k < 100
 ·rw [Lib.decDigits_two a b]; simp
 ·rw [dd3 b (by omega)]; simp
theorem Z1l6 {n : Int} (h0 : 0 <= n) (h1 : n <= 9) : Lib.itoa n = [UInt8.ofNat (48 + n.toNat)] := by
 unfold Lib.itoa;rw [if_neg (by omega), Lib.decDigits_one (by omega)]
theorem Z1h2 {s : By} {n : Int} (h : numB s = some n) : 0 <= n /\ n <= 999 /\ Lib.itoa n = s /\ Lib.atoiAll s = .ok n /\ 1 <= s.length /\ s.length <= 3 := by
 have at0 : ∀ {a : UInt8} {r : By} {u : Nat}, dig a = true -> Lib.parseUint10 0 (a :: r) = .ok u -> u < 1000 -> Lib.atoiAll (a :: r) = .ok (u : Int) := fun {a r u} ha hp hu => by
  rw [Z1gp] at ha;unfold Lib.atoiAll;have e1 : ¬ (a.toNat = 43 ∨ a.toNat = 45) := by omega
  have e2 : ¬ a.toNat = 45 := by omega
  have e3 : Lib.parseMag (if a.toNat = 43 ∨ a.toNat = 45 then r else a :: r) = .ok u := by
   rw [if_neg e1]; unfold Lib.parseMag; rw [if_neg (by simp)]; exact hp
  dsimp only;rw [e3];dsimp only;rw [if_neg (by omega), if_neg (by omega), if_neg e2]
 match s, h with
 | [a], h =>
  simp only [numB] at h
  split at h
  ·rename_i ha
   cases h
   have h1 := Z1gp.1 ha;obtain ⟨k, hk⟩ : ∃ k : Nat, a.toNat = 48 + k := ⟨a.toNat - 48, by omega⟩;have e : dgv a = (k : Int) := by unfold dgv; omega
   have hp : Lib.parseUint10 0 [a] = .ok k := by
    simp only [Lib.parseUint10];rw [if_pos h1, if_neg (by omega), if_neg (by omega)]; congr 1; omega
   refine ⟨by omega, by omega, ?_, by rw [e]; exact at0 ha hp (by omega), by simp, by simp⟩;rw [e]; unfold Lib.itoa;rw [if_neg (by omega), Int.toNat_natCast, Lib.decDigits_one (by omega), Z1hu hk]
  ·cases h
 | [a, b], h =>
  simp only [numB] at h
  split at h
  ·rename_i hc
   obtain ⟨hz, ha, hb⟩ := hc
   cases h
   have h1 := Z1gp.1 ha;have h2 := Z1gp.1 hb;rw [Z1hm, t48] at hz;obtain ⟨k, hk⟩ : ∃ k : Nat, a.toNat = 48 + k := ⟨a.toNat - 48, by omega⟩;obtain ⟨k2, hk2⟩ : ∃ k : Nat, b.toNat = 48 + k := ⟨b.toNat - 48, by omega⟩;have e : 10 * dgv a + dgv b = ((10 * k + k2 : Nat) : Int) := by unfold dgv; omega
   have hp : Lib.parseUint10 0 [a, b] = .ok (10 * k + k2) := by
    simp only [Lib.parseUint10];rw [if_pos h1, if_neg (by omega), if_neg (by omega), if_pos h2, if_neg (by omega), if_neg (by omega)]; congr 1; omega
   refine ⟨by omega, by omega, ?_, by rw [e]; exact at0 ha hp (by omega), by simp, by simp⟩;rw [e]; unfold Lib.itoa;rw [if_neg (by omega), Int.toNat_natCast, Lib.decDigits_two (by omega) (by omega), Z1hu (a := a) (by omega), Z1hu (a := b) (by omega)]
  ·cases h
 | [a, b, c], h =>
  simp only [numB] at h
  split at h
  ·rename_i hc
   obtain ⟨hz, ha, hb, hcc⟩ := hc
   cases h
   have h1 := Z1gp.1 ha;have h2 := Z1gp.1 hb;have h3 := Z1gp.1 hcc;rw [Z1hm, t48] at hz;obtain ⟨k, hk⟩ : ∃ k : Nat, a.toNat = 48 + k := ⟨a.toNat - 48, by omega⟩;obtain ⟨k2, hk2⟩ : ∃ k : Nat, b.toNat = 48 + k := ⟨b.toNat - 48, by omega⟩;obtain ⟨k3, hk3⟩ : ∃ k : Nat, c.toNat = 48 + k := ⟨c.toNat - 48, by omega⟩;have e : 10 * (10 * dgv a + dgv b) + dgv c = ((10 * (10 * k + k2) + k3 : Nat) : Int) := by unfold dgv; omega
   have hp : Lib.parseUint10 0 [a, b, c] = .ok (10 * (10 * k + k2) + k3) := by
    simp only [Lib.parseUint10];rw [if_pos h1, if_neg (by omega), if_neg (by omega), if_pos h2, if_neg (by omega), if_neg (by omega), if_pos h3, if_neg (by omega), if_neg (by omega)]; congr 1; omega
   refine ⟨by omega, by omega, ?_, by rw [e]; exact at0 ha hp (by omega), by simp, by simp⟩;rw [e]; unfold Lib.itoa;rw [if_neg (by omega), Int.toNat_natCast, dd3 (by omega) (by omega), Z1hu (a := a) (by omega), Z1hu (a := b) (by omega), Z1hu (a := c) (by omega)]
  ·cases h
theorem Z1j4 {s : By} (h : numB s = none) {n : Int} (h0 : 0 <= n) (hl : s.length <= 3) : Lib.itoa n ≠ s := by
 intro e;subst e;obtain ⟨k, rfl⟩ : ∃ k : Nat, n = k := ⟨n.toNat, by omega⟩;have hk : k < 1000 := by
  have h1 : Lib.itoa (k : Int) = Lib.decDigits k := by unfold Lib.itoa; rw [if_neg (by omega), Int.toNat_natCast]
  rw [h1, Lib.decDigits_length] at hl;have := Lib.lt_pow_nDigits k;have h3 : 10 ^ Lib.nDigits k <= 10 ^ 3 := Nat.pow_le_pow_right (by decide) hl;omega
 rw [Z1j2 (by omega) (by omega)] at h
 cases h
def Z1gn (c : UInt8) : By -> List By
 | [] => [[]]
 | b :: r => if b = c then [] :: Z1gn c r else
  match Z1gn c r with
  | [] => [[b]]
  | l :: ls => (b :: l) :: ls
theorem Z1h7 (c : UInt8) (l : By) : Z1gn c l ≠ [] := by
 cases l with
 | nil => simp [Z1gn]
 | cons b r =>
  simp only [Z1gn]
  split
  ·simp
  ·split <;> simp
theorem Z1hi {c : UInt8} : ∀ {a : By}, c ∉ a -> Z1gn c a = [a]
 | [], _ => rfl
 | b :: r, h => by
  have hb : ¬ b = c := fun e => h (by simp [e]);have hr : c ∉ r := fun hc => h (List.mem_cons_of_mem _ hc);simp only [Z1gn, if_neg hb, Z1hi hr]
theorem Z1hj {c : UInt8} : ∀ {a r : By}, c ∉ a -> Z1gn c (a ++ c :: r) = a :: Z1gn c r
 | [], r, _ => by simp [Z1gn]
 | b :: a, r, h => by
  have hb : ¬ b = c := fun e => h (by simp [e]);have hr : c ∉ a := fun hc => h (List.mem_cons_of_mem _ hc);simp only [List.cons_append, Z1gn, if_neg hb, Z1hj (r := r) hr]
theorem Z1hn (c : UInt8) : ∀ l : By, c ∉ l ∨ ∃ a r, l = a ++ c :: r /\ c ∉ a
 | [] => .inl (by simp)
 | b :: l => by
  by_cases e : b = c
  ·subst e; exact .inr ⟨[], l, rfl, by simp⟩
  ·rcases Z1hn c l with h | ⟨a, r, rfl, h⟩
   ·exact .inl (by simp [h, Ne.symm e])
   ·exact .inr ⟨b :: a, r, rfl, by simp [h, Ne.symm e]⟩
theorem Z1j5 {c : UInt8} {l : By} (h : c ∉ l) (j : Nat) (_ : j <= l.length) : Lib.occAt l [c] j = false := by
 cases hc : Lib.occAt l [c] j with
 | false => rfl
 | true =>
  have := Lib.occAt_head (t := []) rfl hc;exact absurd (List.mem_of_getElem? this) h
theorem Z1ig {c : UInt8} {l : By} (h : c ∉ l) : Lib.index l [c] = -1 := Lib.index_none (Z1j5 h)
theorem Z1j6 {c : UInt8} {a r : By} (h : c ∉ a) : Lib.index (a ++ c :: r) [c] = (a.length : Int) := by
 refine Lib.index_first (by simp) ?_ (fun j hj => ?_)
 ·rw [Lib.occAt_iff_take _ _ _ (by simp)]; simp
 ·rw [Lib.occAt_iff_take _ _ _ (by simp; omega)];have : ((a ++ c :: r).drop j).take [c].length = [a[j]] := by
   rw [List.drop_append_of_le_length (Nat.le_of_lt hj), List.drop_eq_getElem_cons hj]; rfl
  rw [this];have hne : a[j] ≠ c := fun e => h (e ▸ List.getElem_mem hj);simpa using hne
theorem Z1hv (c : UInt8) : ∀ (n : Nat) (l : By), l.length <= n -> Lib.splitK [c] 0 (Lib.count l [c]) l = Z1gn c l
 | n, l, hn => by
  rcases Z1hn c l with h | ⟨a, r, rfl, h⟩
  ·rw [Lib.count_miss (Z1ig h), Z1hi h]; rfl
  ·match n, hn with
   | 0, hn => simp at hn
   | n + 1, hn =>
    have hi := Z1j6 (r := r) h;rw [Lib.count_hit (by simp) hi, Nat.add_comm, Z1hj h];have hd : (a ++ c :: r).drop (a.length + [c].length) = r := by simp
    rw [hd];simp only [Lib.splitK, hi];rw [if_neg (by simp)];have ht : (a ++ c :: r).take ((a.length : Int).toNat + 0) = a := by simp
    have hd2 : (a ++ c :: r).drop ((a.length : Int).toNat + [c].length) = r := by simp
    rw [ht, hd2, Z1hv c n r (by simp at hn; omega)]
def bs (l : By) : ByteArray := ⟨l.toArray⟩
theorem Z1gy (l : By) : (bs l).data.toList = l := by simp [bs]
theorem bs_of (s : ByteArray) : bs s.data.toList = s := by cases s; simp [bs]
theorem Z1h9 (l : By) : (bs l).size = l.length := rfl
theorem Z1jp (a b : By) : bs a ++ bs b = bs (a ++ b) := by
 apply ByteArray.ext
 simp [bs]
theorem Z1it (c : UInt8) (l : By) : Lib.splitB (bs [c]) 0 (Lib.countB (bs l) (bs [c])) (bs l) = (Z1gn c l).map bs := by
 have h1 := Lib.splitB_data (bs [c]) 0 (Lib.countB (bs l) (bs [c])) (bs l);rw [Z1gy, Z1gy] at h1;have h2 : Lib.countB (bs l) (bs [c]) = Lib.count l [c] := by unfold Lib.countB; rw [Z1gy, Z1gy]
 rw [h2] at h1 ⊢;rw [Z1hv c l.length l (Nat.le_refl _)] at h1;rw [<- h1, List.map_map];have : (bs ∘ fun x : ByteArray => x.data.toList) = id := by funext x; exact bs_of x
 rw [this, List.map_id]
theorem Z1i4 {l cs : By} : Lib.trimS l cs = [] ↔ ∀ x ∈ l, cs.contains x = true := by
 unfold Lib.trimS Lib.trimLeftS Lib.trimRightS;have dw : ∀ m : By, m.dropWhile (cs.contains ·) = [] ↔ ∀ x ∈ m, cs.contains x = true := fun m => by
  induction m with
  | nil => simp
  | cons a m ih =>
   simp only [List.dropWhile]
   split
   ·rename_i ha; rw [ih]; simp only [List.mem_cons]
    constructor
    ·rintro h x (rfl | hx)
     ·exact ha
     ·exact h x hx
    ·exact fun h x hx => h x (.inr hx)
   ·rename_i ha
    simp only [reduceCtorEq, false_iff];intro h;have := h a (by simp);rw [this] at ha; cases ha
 rw [dw];constructor
 ·intro h
  by_cases hr : l.reverse.dropWhile (cs.contains ·) = []
  ·have := (dw _).1 hr;exact fun x hx => this x (List.mem_reverse.2 hx)
  ·exfalso
   have hh := List.head_dropWhile_not (p := fun x => cs.contains x) (l := l.reverse) hr;have := h ((l.reverse.dropWhile (cs.contains ·)).head hr) (List.mem_reverse.2 (List.head_mem hr));rw [this] at hh; cases hh
 ·intro h;have : l.reverse.dropWhile (cs.contains ·) = [] := (dw _).2 fun x hx => h x (List.mem_reverse.1 hx);rw [this]; simp
end Go.Txt

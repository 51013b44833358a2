/- Part BenchB of the proofs about the benches of the accordion maker: see the last text of the claim for what is proved. -/
import Derived.Test.YtmloogdalecilaaDoorBenchA
import Derived.Test.YtmloogdalecilaaDoorMachD
set_option linter.unusedVariables false
set_option linter.unusedSimpArgs false
set_option linter.unnecessarySimpa false
set_option linter.constructorNameAsVariable false

/-! D9 -/
namespace Go.Proofs.YtmloogdalecilaaDoor
open Go Go.Abs Go.Proofs

theorem bWith (n lo hi : Int) (b : Bool) (hb : b = decide (lo ≤ n ∧ n ≤ hi)) (Q) (hq : Q (RA.ret (.v (.bool b))) []) : CallA Tryd.prog 92 [I n, I lo, I hi] [] Q := bWithin n lo hi Q (hb ▸ hq)
theorem rAm (n lo hi : Int) (b : Bool) (hb : b = decide (lo ≤ n ∧ n ≤ hi)) (Q) (hq : Q (RA.ret (.v (.bool b))) []) : CallA Tryd.prog 95 [I n, I lo, I hi] [] Q := rAmong n lo hi Q (hb ▸ hq)

/-! When shops are valid. -/
def amg (n lo hi : Int) : Bool := decide (lo ≤ n ∧ n ≤ hi)
def chkW (b : Int) (w : Wk) : Int :=
  if amg w.b 0 (b - 1) = false then 3 else if amg w.lo 1 20 = false then 1 else if amg w.hi 1 20 = false then 1 else if w.hi < w.lo then 5 else 0
def chkWs (b : Int) : List Wk → Int
  | [] => 0
  | w :: r => if chkW b w = 0 then chkWs b r else chkW b w
def chkT (b : Int) (t : Tk) : Int :=
  if amg t.ready 0 200 = false then 1 else if amg t.due 0 200 = false then 1 else if t.works = [] then 7 else chkWs b t.works
def chkTs (b : Int) : List Tk → Int
  | [] => 0
  | t :: r => if chkT b t = 0 then chkTs b r else chkT b t
def chkS (s : Sh) : Int :=
  if amg s.benches 1 3 = false then 1 else if 4 < s.tasks.length then 6 else if chkTs s.benches s.tasks = 0 then (if 8 < nWorks s.tasks then 6 else 0) else chkTs s.benches s.tasks

theorem drop_at {α : Type} {l : List α} {k : Nat} {x : α} (h : l[k]? = some x) : l.drop k = x :: l.drop (k + 1) := by
  obtain ⟨h1, rfl⟩ := List.getElem?_eq_some_iff.1 h
  exact List.drop_eq_getElem_cons h1

section
variable {A : Ar} (hA : A = ar)
 include hA
theorem yoiL {l : List D} {n : Nat} (e : l.length = n) : A.oi (A.len l) = (n : Int) := by subst hA; subst e; rfl
theorem yeqL {l : List D} {n : Nat} {x : Int} (e : l.length = n) (c : A.cmp .eql (A.oi (A.len l)) x = true) : (n : Int) = x := (yoiL hA e).symm.trans (xeq hA c)
theorem yneqL {l : List D} {n : Nat} {x : Int} (e : l.length = n) (c : A.cmp .eql (A.oi (A.len l)) x = false) : (n : Int) ≠ x := fun h => xneq hA c ((yoiL hA e).trans h)
theorem ygtL {l : List D} {n : Nat} {x : Int} (e : l.length = n) (c : A.cmp .gtr (A.oi (A.len l)) x = true) : x < (n : Int) := (yoiL hA e) ▸ xgt hA c
theorem yngtL {l : List D} {n : Nat} {x : Int} (e : l.length = n) (c : A.cmp .gtr (A.oi (A.len l)) x = false) : (n : Int) ≤ x := (yoiL hA e) ▸ xngt hA c
theorem xnot {b : Bool} (h : A.bnot b = true) : b = false := by subst hA; simpa [ar] using h
theorem xnnot {b : Bool} (h : A.bnot b = false) : b = true := by subst hA; simpa [ar] using h
end

theorem nWorks_take {l : List Tk} {B : Nat} (h : ∀ t ∈ l, t.works.length ≤ B) : ∀ m, nWorks (l.take m) ≤ m * B
  | 0 => by simp [nWorks]
  | m + 1 => by
    have ih := nWorks_take h m
    rw [List.take_add_one, Nat.succ_mul]
    cases e : l[m]? with
    | none => simp only [Option.toList_none, List.append_nil]; omega
    | some t =>
      have := h t (List.mem_of_getElem? e)
      simp only [nWorks, List.map_append, List.sum_append, Option.toList_some, List.map_cons, List.map_nil, List.sum_cons, List.sum_nil] at ih ⊢
      omega

/-- bench.works. -/
theorem bWorks (s : Sh) (TL : List D) (hT : TL = s.tasks.map taskD) (hl : s.tasks.length ≤ 4) (hw : ∀ t ∈ s.tasks, t.works.length ≤ 1152921504606846976) (n : Int) (hn : IsI n (nWorks s.tasks)) (Q) (hq : Q (RA.ret (I n)) []) :
    CallA Tryd.prog 94 [.agg [I s.benches, .sl 3 TL]] [] Q := by
  obtain ⟨A, hA⟩ : ∃ A, A = ar := ⟨_, rfl⟩
  have hTl : TL.length = s.tasks.length := by rw [hT]; simp
  refine callA_start tokT hA Tryd.func94 rfl rfl rfl rfl rfl fun S hS => ?_
  cbv
  refine at_code hS ?_
  refine wpa_loopG (α := Int × Nat × Int) (fun q => { env := [(1, .b 0 0), (2, I 0), (3, I q.2.2), (7, .sl 3 TL), (8, I (A.oi (A.len TL))), (9, I q.1)], H := [.box (.agg [I s.benches, .sl 3 TL])], nt := 20, dfs := [] })
    (fun q => s.tasks.length - q.2.1) (fun q => q.2.1 ≤ s.tasks.length ∧ IsI q.1 q.2.1 ∧ IsI q.2.2 (nWorks (s.tasks.take q.2.1))) (0, 0, 0) ⟨Nat.zero_le _, ⟨rfl⟩, ⟨rfl⟩⟩ ?_ ?_
  · exact gs_to [0] ⟨by decide, pre0, ⟨rfl, trivial⟩, ⟨rfl, rfl, rfl, rfl, rfl, rfl, trivial⟩, rfl, rfl⟩
  rintro ⟨i, k, x⟩ ⟨u1, u2, u3⟩
  dsimp only at u1 u2 u3
  refine wp_go tokT hA hS ?_
  cbv
  split
  · rename_i c
    have hk : k < s.tasks.length := yltL hA hTl u2 c
    obtain ⟨t, ht⟩ : ∃ t, t = s.tasks[k] := ⟨_, rfl⟩
    have htk : s.tasks[k]? = some t := by rw [ht]; exact List.getElem?_eq_getElem hk
    obtain ⟨WL, hWL⟩ : ∃ WL, WL = t.works.map workD := ⟨_, rfl⟩
    have hTk : TL[k]? = some (.agg [I t.ready, I t.due, .sl 3 WL]) := by rw [hT]; simp [htk, hWL, taskD]
    have hs : nWorks (s.tasks.take (k + 1)) = nWorks (s.tasks.take k) + WL.length := by
      rw [List.take_add_one, htk]; simp [nWorks, hWL]
    have hb := nWorks_take hw (k + 1)
    have hf : A.fits .i64 (A.add x (A.oi (A.len WL))) := by
      subst hA; exact ok64 (n := x + (WL.length : Int)) (by
        have := u3.eq
        have h4 : (k + 1) * 1152921504606846976 ≤ 4 * 1152921504606846976 := Nat.mul_le_mul_right _ (by omega)
        omega)
    have hx : IsI (A.add x (A.oi (A.len WL))) (nWorks (s.tasks.take (k + 1))) := by
      subst hA; exact ⟨by rw [hs, u3.eq]; rfl⟩
    cbv
    refine ⟨yinbL hA hTl u2 hk, ⟨_, yget hA u2 hTk, ?_⟩⟩
    cbv
    refine ⟨hf, yfit1 hA u2 (by omega), ?_⟩
    refine gs_loop (A.add i 1, k + 1, A.add x (A.oi (A.len WL))) [0] ⟨hk, ysucc hA u2, hx⟩ (by simp only; omega) ?_
    exact ⟨by decide, pre0, ⟨rfl, trivial⟩, ⟨rfl, rfl, rfl, rfl, rfl, rfl, trivial⟩, rfl, rfl⟩
  · rename_i c
    have hk : s.tasks.length ≤ k := ynltL hA hTl u2 c
    have hk2 : k = s.tasks.length := by omega
    have hx : x = n := by rw [u3.eq, hn.eq, hk2, List.take_length]
    rw [← hx] at hq
    cbv
    refine gs_done ?_
    cbv
    exact gh_view [] (by decide) pre0 (H' := []) (d' := I x) trivial rfl (gh_done hq)
end Go.Proofs.YtmloogdalecilaaDoor

/-! D10 -/
namespace Go.Proofs.YtmloogdalecilaaDoor
open Go Go.Abs Go.Proofs

theorem chkWs_drop {b : Int} {l : List Wk} {k : Nat} {w : Wk} (h : l[k]? = some w) : chkWs b (l.drop k) = if chkW b w = 0 then chkWs b (l.drop (k + 1)) else chkW b w := by
  rw [drop_at h]; rfl

set_option maxRecDepth 20000 in
set_option maxHeartbeats 2000000 in
/-- bench.checkTask. -/
theorem bCheckTask (b : Int) (hb : 1 ≤ b ∧ b ≤ 3) (t : Tk) (TL WL : List D) (hW : WL = t.works.map workD) (hlen : t.works.length ≤ 1152921504606846976) (n : Int) (hn : n = chkT b t) (Q) (hq : Q (RA.ret (I n)) []) :
    CallA Tryd.prog 93 [.agg [I b, .sl 3 TL], .agg [I t.ready, I t.due, .sl 3 WL]] [] Q := by
  obtain ⟨A, hA⟩ : ∃ A, A = ar := ⟨_, rfl⟩
  have hWl : WL.length = t.works.length := by rw [hW]; simp
  obtain ⟨b1, hb1⟩ : ∃ x, x = decide (0 ≤ t.ready ∧ t.ready ≤ 200) := ⟨_, rfl⟩
  obtain ⟨b2, hb2⟩ : ∃ x, x = decide (0 ≤ t.due ∧ t.due ≤ 200) := ⟨_, rfl⟩
  refine callA_start tokT hA Tryd.func93 rfl rfl rfl rfl rfl fun S hS => ?_
  cbv
  refine ops_call hS [I t.ready, I 0, I 200] [] [] rfl rfl rfl rfl rfl rfl rfl rfl (by decide) trivial (bWith _ _ _ b1 hb1 _ ?_)
  refine ops_go tokT hA hS ?_
  cbv
  split
  · rename_i c1
    have hz : n = 1 := by rw [hn, chkT, amg, ← hb1, if_pos (xnot hA c1)]
    rw [hz] at hq
    cbv
    refine ops_callG (f := 0) hS rfl rfl rfl rfl rfl rfl rfl rfl (fun e => Bool.noConfusion e) (fun _ => ?_)
    refine ops_go tokT hA hS ?_
    cbv
    exact gh_view [] (by decide) pre0 (H' := []) (d' := I 1) trivial rfl (gh_done hq)
  rename_i c1
  have d1 := xnnot hA c1
  cbv
  refine ops_callG hS rfl rfl rfl rfl rfl rfl rfl rfl (fun _ => ⟨_, _, [I t.due, I 0, I 200], [], [], rfl, rfl, rfl, by decide, trivial, bWith _ _ _ b2 hb2 _ ?_⟩) (fun e => absurd rfl e)
  refine ops_go tokT hA hS ?_
  cbv
  split
  · rename_i c2
    have hz : n = 1 := by rw [hn, chkT, amg, ← hb1, d1, if_neg (by decide), amg, ← hb2, if_pos (xnot hA c2)]
    rw [hz] at hq
    cbv
    exact gh_view [] (by decide) pre0 (H' := []) (d' := I 1) trivial rfl (gh_done hq)
  rename_i c2
  have d2 := xnnot hA c2
  have hn1 : n = if t.works = [] then 7 else chkWs b t.works := by rw [hn, chkT, amg, ← hb1, d1, if_neg (by decide), amg, ← hb2, d2, if_neg (by decide)]
  cbv
  split
  · rename_i c3
    have hz : n = 7 := by
      have := yeqL hA hWl c3
      rw [hn1, if_pos]
      exact List.eq_nil_of_length_eq_zero (by omega)
    rw [hz] at hq
    cbv
    exact gh_view [] (by decide) pre0 (H' := []) (d' := I 7) trivial rfl (gh_done hq)
  rename_i c3
  have hn2 : n = chkWs b (t.works.drop 0) := by
    rw [hn1, if_neg]; rfl
    intro e
    have := yneqL hA hWl c3
    rw [e] at this
    exact this rfl
  cbv
  refine at_code hS ?_
  refine wpa_loopG (α := Int × Nat) (fun q => { env := [(2, .b 0 0), (3, .b 1 0), (22, .sl 3 WL), (23, I (A.oi (A.len WL))), (24, I q.1)], H := [.box (.agg [I b, .sl 3 TL]), .box (.agg [I t.ready, I t.due, .sl 3 WL])], nt := 58, dfs := [] })
    (fun q => t.works.length - q.2) (fun q => q.2 ≤ t.works.length ∧ IsI q.1 q.2 ∧ n = chkWs b (t.works.drop q.2)) (0, 0) ⟨Nat.zero_le _, ⟨rfl⟩, hn2⟩ ?_ ?_
  · exact gs_to [0, 1] ⟨by decide, pre0, ⟨rfl, rfl, trivial⟩, ⟨rfl, rfl, rfl, rfl, rfl, trivial⟩, rfl, rfl⟩
  rintro ⟨i, k⟩ ⟨u1, u2, u3⟩
  dsimp only at u1 u2 u3
  refine wp_go tokT hA hS ?_
  cbv
  split
  · rename_i c
    have hk : k < t.works.length := yltL hA hWl u2 c
    obtain ⟨w, hw⟩ : ∃ w, w = t.works[k] := ⟨_, rfl⟩
    have hwk : t.works[k]? = some w := by rw [hw]; exact List.getElem?_eq_getElem hk
    have hWk : WL[k]? = some (.agg [I w.b, I w.lo, I w.hi]) := by rw [hW]; simp [hwk, workD]
    rw [chkWs_drop hwk] at u3
    obtain ⟨b3, hb3⟩ : ∃ x, x = decide (0 ≤ w.b ∧ w.b ≤ b - 1) := ⟨_, rfl⟩
    obtain ⟨b4, hb4⟩ : ∃ x, x = decide (1 ≤ w.lo ∧ w.lo ≤ 20) := ⟨_, rfl⟩
    obtain ⟨b5, hb5⟩ : ∃ x, x = decide (1 ≤ w.hi ∧ w.hi ≤ 20) := ⟨_, rfl⟩
    have hb3' : b3 = decide (0 ≤ w.b ∧ w.b ≤ A.sub b 1) := by rw [xsub hA]; exact hb3
    have hf : A.fits .i64 (A.sub b 1) := xfitE hA (xsub hA b 1) (by omega)
    have hf2 : A.fits .i64 (A.add i 1) ∨ True := .inr trivial
    cbv
    refine ⟨yinbL hA hWl u2 hk, ⟨_, yget hA u2 hWk, ?_⟩⟩
    cbv
    refine ⟨hf, ?_⟩
    refine ops_call hS [I w.b, I 0, I (A.sub b 1)] [] [] rfl rfl rfl rfl rfl rfl rfl rfl (by decide) trivial (bWith _ _ _ b3 hb3' _ ?_)
    refine ops_go tokT hA hS ?_
    cbv
    split
    · rename_i c4
      have hz : n = 3 := by
        have e : chkW b w = 3 := by rw [chkW, amg, ← hb3, if_pos (xnot hA c4)]
        rw [u3, e]; rfl
      rw [hz] at hq
      cbv
      refine gs_done ?_
      cbv
      exact gh_view [] (by decide) pre0 (H' := []) (d' := I 3) trivial rfl (gh_done hq)
    rename_i c4
    have d4 := xnnot hA c4
    cbv
    refine ops_call hS [I w.lo, I 1, I 20] [] [] rfl rfl rfl rfl rfl rfl rfl rfl (by decide) trivial (bWith _ _ _ b4 hb4 _ ?_)
    refine ops_go tokT hA hS ?_
    cbv
    split
    · rename_i c5
      have hz : n = 1 := by
        have e : chkW b w = 1 := by rw [chkW, amg, ← hb3, d4, if_neg (by decide), amg, ← hb4, if_pos (xnot hA c5)]
        rw [u3, e]; rfl
      rw [hz] at hq
      cbv
      refine ops_callG (f := 0) hS rfl rfl rfl rfl rfl rfl rfl rfl (fun e => Bool.noConfusion e) (fun _ => ?_)
      refine ops_go tokT hA hS ?_
      cbv
      refine gs_done ?_
      cbv
      exact gh_view [] (by decide) pre0 (H' := []) (d' := I 1) trivial rfl (gh_done hq)
    rename_i c5
    have d5 := xnnot hA c5
    cbv
    refine ops_callG hS rfl rfl rfl rfl rfl rfl rfl rfl (fun _ => ⟨_, _, [I w.hi, I 1, I 20], [], [], rfl, rfl, rfl, by decide, trivial, bWith _ _ _ b5 hb5 _ ?_⟩) (fun e => absurd rfl e)
    refine ops_go tokT hA hS ?_
    cbv
    split
    · rename_i c6
      have hz : n = 1 := by
        have e : chkW b w = 1 := by rw [chkW, amg, ← hb3, d4, if_neg (by decide), amg, ← hb4, d5, if_neg (by decide), amg, ← hb5, if_pos (xnot hA c6)]
        rw [u3, e]; rfl
      rw [hz] at hq
      cbv
      refine gs_done ?_
      cbv
      exact gh_view [] (by decide) pre0 (H' := []) (d' := I 1) trivial rfl (gh_done hq)
    rename_i c6
    have d6 := xnnot hA c6
    have e6 : chkW b w = if w.hi < w.lo then 5 else 0 := by rw [chkW, amg, ← hb3, d4, if_neg (by decide), amg, ← hb4, d5, if_neg (by decide), amg, ← hb5, d6, if_neg (by decide)]
    cbv
    split
    · rename_i c7
      have hz : n = 5 := by
        have e : w.hi < w.lo := xgt hA c7
        rw [if_pos e] at e6
        rw [u3, e6]; rfl
      rw [hz] at hq
      cbv
      refine gs_done ?_
      cbv
      exact gh_view [] (by decide) pre0 (H' := []) (d' := I 5) trivial rfl (gh_done hq)
    rename_i c7
    have e7 : chkW b w = 0 := by
      have e : w.lo ≤ w.hi := xngt hA c7
      rw [e6, if_neg (by omega)]
    rw [if_pos e7] at u3
    cbv
    refine ⟨yfit1 hA u2 (by have := yltL hA hWl u2 c; have := hlen; omega), ?_⟩
    refine gs_loop (A.add i 1, k + 1) [0, 1] ⟨hk, ysucc hA u2, u3⟩ (by simp only; omega) ?_
    exact ⟨by decide, pre0, ⟨rfl, rfl, trivial⟩, ⟨rfl, rfl, rfl, rfl, rfl, trivial⟩, rfl, rfl⟩
  · rename_i c
    have hk : t.works.length ≤ k := ynltL hA hWl u2 c
    have hz : n = 0 := by rw [u3, List.drop_eq_nil_of_le hk]; rfl
    rw [hz] at hq
    cbv
    refine gs_done ?_
    cbv
    exact gh_view [] (by decide) pre0 (H' := []) (d' := I 0) trivial rfl (gh_done hq)
end Go.Proofs.YtmloogdalecilaaDoor

/-! D11 -/
namespace Go.Proofs.YtmloogdalecilaaDoor
open Go Go.Abs Go.Proofs

theorem chkTs_drop {b : Int} {l : List Tk} {k : Nat} {t : Tk} (h : l[k]? = some t) : chkTs b (l.drop k) = if chkT b t = 0 then chkTs b (l.drop (k + 1)) else chkT b t := by
  rw [drop_at h]; rfl

/-- Rows that are no longer than memory. -/
def Fin (s : Sh) : Prop := s.tasks.length ≤ 1152921504606846976 ∧ ∀ t ∈ s.tasks, t.works.length ≤ 1152921504606846976

set_option maxRecDepth 20000 in
set_option maxHeartbeats 2000000 in
/-- bench.Check. -/
theorem bCheck (s : Sh) (hs : Fin s) (TL : List D) (hT : TL = s.tasks.map taskD) (n : Int) (hn : n = chkS s) (Q) (hq : Q (RA.ret (I n)) []) :
    CallA Tryd.prog 52 [.agg [I s.benches, .sl 3 TL]] [] Q := by
  obtain ⟨A, hA⟩ : ∃ A, A = ar := ⟨_, rfl⟩
  have hTl : TL.length = s.tasks.length := by rw [hT]; simp
  obtain ⟨b1, hb1⟩ : ∃ x, x = decide (1 ≤ s.benches ∧ s.benches ≤ 3) := ⟨_, rfl⟩
  refine callA_start tokT hA Tryd.func52 rfl rfl rfl rfl rfl fun S hS => ?_
  cbv
  refine ops_call hS [I s.benches, I 1, I 3] [] [] rfl rfl rfl rfl rfl rfl rfl rfl (by decide) trivial (bWith _ _ _ b1 hb1 _ ?_)
  refine ops_go tokT hA hS ?_
  cbv
  split
  · rename_i c1
    have hz : n = 1 := by rw [hn, chkS, amg, ← hb1, if_pos (xnot hA c1)]
    rw [hz] at hq
    cbv
    exact gh_view [] (by decide) pre0 (H' := []) (d' := I 1) trivial rfl (gh_done hq)
  rename_i c1
  have d1 := xnnot hA c1
  have hbb : 1 ≤ s.benches ∧ s.benches ≤ 3 := by rw [d1] at hb1; exact of_decide_eq_true hb1.symm
  have hn1 : n = if 4 < s.tasks.length then 6 else if chkTs s.benches s.tasks = 0 then (if 8 < nWorks s.tasks then 6 else 0) else chkTs s.benches s.tasks := by
    rw [hn, chkS, amg, ← hb1, d1, if_neg (by decide)]
  cbv
  split
  · rename_i c2
    have hz : n = 6 := by have := ygtL hA hTl c2; rw [hn1, if_pos (by omega)]
    rw [hz] at hq
    cbv
    exact gh_view [] (by decide) pre0 (H' := []) (d' := I 6) trivial rfl (gh_done hq)
  rename_i c2
  have h4 : s.tasks.length ≤ 4 := by have := yngtL hA hTl c2; omega
  rw [if_neg (by omega)] at hn1
  obtain ⟨z, hz⟩ : ∃ z : Int, z = if 8 < nWorks s.tasks then 6 else 0 := ⟨_, rfl⟩
  rw [← hz] at hn1
  cbv
  refine at_code hS ?_
  refine wpa_loopG (α := Int × Nat) (fun q => { env := [(1, .b 0 0), (15, .sl 3 TL), (16, I (A.oi (A.len TL))), (17, I q.1)], H := [.box (.agg [I s.benches, .sl 3 TL])], nt := 31, dfs := [] })
    (fun q => s.tasks.length - q.2) (fun q => q.2 ≤ s.tasks.length ∧ IsI q.1 q.2 ∧ n = if chkTs s.benches (s.tasks.drop q.2) = 0 then z else chkTs s.benches (s.tasks.drop q.2)) (0, 0) ⟨Nat.zero_le _, ⟨rfl⟩, hn1⟩ ?_ ?_
  · exact gs_to [0] ⟨by decide, pre0, ⟨rfl, trivial⟩, ⟨rfl, rfl, rfl, rfl, trivial⟩, rfl, rfl⟩
  rintro ⟨i, k⟩ ⟨u1, u2, u3⟩
  dsimp only at u1 u2 u3
  refine wp_go tokT hA hS ?_
  cbv
  split
  · rename_i c
    have hk : k < s.tasks.length := yltL hA hTl u2 c
    obtain ⟨t, ht⟩ : ∃ t, t = s.tasks[k] := ⟨_, rfl⟩
    have htk : s.tasks[k]? = some t := by rw [ht]; exact List.getElem?_eq_getElem hk
    have htm := List.mem_of_getElem? htk
    obtain ⟨WL, hWL⟩ : ∃ WL, WL = t.works.map workD := ⟨_, rfl⟩
    have hTk : TL[k]? = some (.agg [I t.ready, I t.due, .sl 3 WL]) := by rw [hT]; simp [htk, hWL, taskD]
    rw [chkTs_drop htk] at u3
    obtain ⟨e, he⟩ : ∃ e, e = chkT s.benches t := ⟨_, rfl⟩
    rw [← he] at u3
    cbv
    refine ⟨yinbL hA hTl u2 hk, ⟨_, yget hA u2 hTk, ?_⟩⟩
    cbv
    refine ops_call hS [.agg [I s.benches, .sl 3 TL], .agg [I t.ready, I t.due, .sl 3 WL]] [] [] rfl rfl rfl rfl rfl rfl rfl rfl (by decide) trivial (bCheckTask _ hbb t TL WL hWL (hs.2 t htm) e he _ ?_)
    refine ops_go tokT hA hS ?_
    cbv
    split
    · rename_i c3
      have e3 := xne hA c3
      have hz : n = e := by rw [u3, if_neg e3, if_neg e3]
      rw [hz] at hq
      cbv
      refine gs_done ?_
      cbv
      exact gh_view [] (by decide) pre0 (H' := []) (d' := I e) trivial rfl (gh_done hq)
    rename_i c3
    have e3 : e = 0 := xnne hA c3
    rw [if_pos e3] at u3
    cbv
    refine ⟨yfit1 hA u2 (by omega), ?_⟩
    refine gs_loop (A.add i 1, k + 1) [0] ⟨hk, ysucc hA u2, u3⟩ (by simp only; omega) ?_
    exact ⟨by decide, pre0, ⟨rfl, trivial⟩, ⟨rfl, rfl, rfl, rfl, trivial⟩, rfl, rfl⟩
  · rename_i c
    have hk : s.tasks.length ≤ k := ynltL hA hTl u2 c
    rw [List.drop_eq_nil_of_le hk] at u3
    have u4 : n = z := u3
    obtain ⟨nw, hnw⟩ : ∃ x, IsI x (nWorks s.tasks) := ⟨_, ⟨rfl⟩⟩
    cbv
    refine gs_done ?_
    cbv
    refine ops_call hS [.agg [I s.benches, .sl 3 TL]] [] [] rfl rfl rfl rfl rfl rfl rfl rfl (by decide) trivial (bWorks s TL hT h4 hs.2 nw hnw _ ?_)
    refine ops_go tokT hA hS ?_
    cbv
    split
    · rename_i c5
      have e5 := xgt hA c5
      have hw := hnw.eq
      rw [if_pos (by omega)] at hz
      rw [u4, hz] at hq
      cbv
      exact gh_view [] (by decide) pre0 (H' := []) (d' := I 6) trivial rfl (gh_done hq)
    · rename_i c5
      have e5 := xngt hA c5
      have hw := hnw.eq
      rw [if_neg (by omega)] at hz
      rw [u4, hz] at hq
      cbv
      exact gh_view [] (by decide) pre0 (H' := []) (d' := I 0) trivial rfl (gh_done hq)
end Go.Proofs.YtmloogdalecilaaDoor

/-! D12 -/
namespace Go.Proofs.YtmloogdalecilaaDoor
open Go Go.Abs Go.Proofs

/-- A whole plan. -/
structure PlanOk (s : Sh) (p : List Nat) : Prop where
  lt : ∀ i ∈ p, i < s.tasks.length
  cnt : ∀ i, i < s.tasks.length → p.count i = (s.tasks.getD i default).works.length
  len : p.length = nWorks s.tasks

def cntD (s : Sh) (p : List Nat) (k : Nat) : List D := (List.range s.tasks.length).map fun i => I ((p.take k).count i : Nat)

theorem cntD_get {s : Sh} {p : List Nat} {k i : Nat} (h : i < s.tasks.length) : (cntD s p k)[i]? = some (I ((p.take k).count i : Nat)) := by
  simp [cntD, h]

theorem cntD_set {s : Sh} {p : List Nat} {k i : Nat} (hk : p[k]? = some i) (h : i < s.tasks.length) : cntD s p (k + 1) = (cntD s p k).set i (I (((p.take k).count i + 1 : Nat) : Int)) := by
  refine List.ext_getElem? fun j => ?_
  rw [List.getElem?_set]
  by_cases hj : j < s.tasks.length
  · rw [cntD_get hj, take_succ_count hk j]
    by_cases e : i = j
    · subst e; rw [if_pos rfl, if_pos rfl, if_pos (by simpa [cntD] using hj)]
    · rw [if_neg (fun h => e h.symm), if_neg e, cntD_get hj]; rfl
  · rw [if_neg (by omega), List.getElem?_eq_none (by simp [cntD]; omega), List.getElem?_eq_none (by simp [cntD]; omega)]

set_option maxRecDepth 20000 in
set_option maxHeartbeats 2000000 in
/-- bench.checked, of a whole plan. -/
theorem bChecked (s : Sh) (h4 : s.tasks.length ≤ 4) (hw : ∀ t ∈ s.tasks, t.works.length ≤ 1152921504606846976) (p : List Nat) (hp : PlanOk s p) (TL PL : List D) (hT : TL = s.tasks.map taskD) (hP : PL = p.map (fun i => I (i : Nat))) (Q) (hq : Q (RA.ret (.v .nilIface)) []) :
    CallA Tryd.prog 108 [.agg [I s.benches, .sl 3 TL], .sl 1 PL] [] Q := by
  obtain ⟨A, hA⟩ : ∃ A, A = ar := ⟨_, rfl⟩
  obtain ⟨N, hN⟩ : ∃ N, N = s.tasks.length := ⟨_, rfl⟩
  have hTl : TL.length = N := by rw [hT, hN]; simp
  have hPl : PL.length = p.length := by rw [hP]; simp
  have hpb : p.length ≤ 4 * 1152921504606846976 := by
    rw [hp.len]
    have := nWorks_take hw s.tasks.length
    rw [List.take_length] at this
    exact Nat.le_trans this (Nat.mul_le_mul_right _ h4)
  have hr0 : 0 ≤ ((TL.length : Nat) : Int) := by omega
  have hr1 : TL.length * 8 ≤ 140737488355328 ∧ TL.length ≤ 4611686018427387904 := by omega
  refine callA_start tokT hA Tryd.func108 rfl rfl rfl rfl rfl fun S hS => ?_
  cbv
  refine ⟨by subst hA; exact hr0, by subst hA; exact hr1, ?_⟩
  refine at_code hS ?_
  refine wpa_loopG (α := Int × Nat × List D) (fun q => { env := [(1, .sl 1 PL), (2, .b 0 0), (5, .o 1 1 N), (12, .sl 1 PL), (13, I (A.oi (A.len PL))), (14, I q.1)], H := [.box (.agg [I s.benches, .sl 3 TL]), .els 1 q.2.2], nt := 55, dfs := [] })
    (fun q => p.length - q.2.1) (fun q => q.2.1 ≤ p.length ∧ IsI q.1 q.2.1 ∧ q.2.2 = cntD s p q.2.1) (0, 0, List.replicate TL.length (I 0)) ⟨Nat.zero_le _, ⟨rfl⟩, ?_⟩ ?_ ?_
  · exact List.ext_getElem? fun j => by
      by_cases hj : j < s.tasks.length
      · rw [cntD_get hj, List.getElem?_replicate, if_pos (by omega)]; rfl
      · rw [List.getElem?_eq_none (by simp; omega), List.getElem?_eq_none (by simp [cntD]; omega)]
  · exact gs_to [0, 1] ⟨by decide, pre0, ⟨rfl, by subst hA; rfl, trivial⟩, ⟨rfl, rfl, by subst hA; rw [← hTl]; rfl, rfl, rfl, rfl, trivial⟩, rfl, rfl⟩
  rintro ⟨i, k, L⟩ ⟨u1, u2, u3⟩
  dsimp only at u1 u2 u3
  have hLl : L.length = N := by rw [u3, hN]; simp [cntD]
  refine wp_go tokT hA hS ?_
  cbv
  split
  · rename_i c
    have hk : k < p.length := yltL hA hPl u2 c
    obtain ⟨x, hx⟩ : ∃ x, x = p[k] := ⟨_, rfl⟩
    have hpk : p[k]? = some x := by rw [hx]; exact List.getElem?_eq_getElem hk
    have hxl : x < s.tasks.length := hp.lt x (List.mem_of_getElem? hpk)
    obtain ⟨xI, hxI⟩ : ∃ y, IsI y x := ⟨_, ⟨rfl⟩⟩
    have hPk : PL[k]? = some (I xI) := by rw [hP, hxI.eq]; simp [hpk]
    obtain ⟨b, hb⟩ : ∃ b, b = decide (0 ≤ xI ∧ xI ≤ A.sub (A.oi (A.len TL)) 1) := ⟨_, rfl⟩
    have hb1 : b = true := by rw [hb, xsub hA, yoiL hA hTl]; have := hxI.eq; exact decide_eq_true (by omega)
    have hf : A.fits .i64 (A.sub (A.oi (A.len TL)) 1) := xfitE hA (by rw [xsub hA, yoiL hA hTl]) (by omega)
    obtain ⟨cI, hcI⟩ : ∃ y, IsI y ((p.take k).count x) := ⟨_, ⟨rfl⟩⟩
    have hcl : (p.take k).count x ≤ k := Nat.le_trans List.count_le_length (by simp; omega)
    have hLx : L[x]? = some (I cI) := by rw [u3, hcI.eq]; exact cntD_get hxl
    obtain ⟨t, ht⟩ : ∃ t, t = s.tasks[x] := ⟨_, rfl⟩
    have htx : s.tasks[x]? = some t := by rw [ht]; exact List.getElem?_eq_getElem hxl
    obtain ⟨WL, hWL⟩ : ∃ WL, WL = t.works.map workD := ⟨_, rfl⟩
    have hWl : WL.length = t.works.length := by rw [hWL]; simp
    have hTk : TL[x]? = some (.agg [I t.ready, I t.due, .sl 3 WL]) := by rw [hT]; simp [htx, hWL, taskD]
    have hset : L.set x (I (A.add cI 1)) = cntD s p (k + 1) := by
      rw [cntD_set hpk hxl, ← u3, (ysucc hA hcI).eq]
    have hcw : (p.take k).count x + 1 ≤ t.works.length := by
      have h1 := take_succ_count hpk x
      rw [if_pos rfl] at h1
      have h2 : (p.take (k + 1)).count x ≤ p.count x := (List.take_sublist _ _).count_le x
      have h3 := hp.cnt x hxl
      rw [List.getD_eq_getElem?_getD, htx] at h3
      simp only [Option.getD_some] at h3
      omega
    have hst := yset hA hxI hset.symm
    cbv
    refine ⟨yinbL hA hPl u2 hk, ⟨_, yget hA u2 hPk, ?_⟩⟩
    cbv
    refine ⟨hf, ?_⟩
    refine ops_call hS [I xI, I 0, I (A.sub (A.oi (A.len TL)) 1)] [] [] rfl rfl rfl rfl rfl rfl rfl rfl (by decide) trivial (bWith _ _ _ b hb _ ?_)
    refine ops_go tokT hA hS ?_
    cbv
    split
    · rename_i c2
      exact absurd (xnot hA c2) (by rw [hb1]; decide)
    cbv
    refine ⟨yinb hA hxI (by omega), ⟨_, yget hA hxI hLx, ?_⟩⟩
    cbv
    refine ⟨yfit1 hA hcI (by omega), yinb hA hxI (by omega), ⟨_, yget hA hxI hLx, ?_⟩⟩
    cbv
    refine draw_go tokT hA hS [0, 1, 2, 3, 4, 5, 6, 7, 8, 9, 10, 11] rfl rfl fun Dk hD => ?_
    cbv
    refine ⟨yinb hA hxI (by omega), ⟨_, ysetGet hA hxI hLl (by omega), ?_⟩⟩
    cbv
    refine ⟨yinbL hA hTl hxI (by omega), ⟨_, yget hA hxI hTk, ?_⟩⟩
    cbv
    split
    · rename_i c3
      have e3 : A.add cI 1 > A.oi (A.len WL) := xgt hA c3
      rw [yoiL hA hWl, (ysucc hA hcI).eq] at e3
      omega
    cbv
    refine ⟨yfit1 hA u2 (by omega), ?_⟩
    refine gs_loop (A.add i 1, k + 1, A.set L (A.tn xI) (I (A.add cI 1))) [0, 1] ⟨hk, ysucc hA u2, hst⟩ (by simp only; omega) ?_
    exact ⟨by decide, pre0, ⟨rfl, rfl, trivial⟩, ⟨rfl, rfl, rfl, rfl, rfl, rfl, trivial⟩, rfl, rfl⟩
  · rename_i c
    have hk : p.length ≤ k := ynltL hA hPl u2 c
    obtain ⟨nw, hnw⟩ : ∃ x, IsI x (nWorks s.tasks) := ⟨_, ⟨rfl⟩⟩
    have hnl : A.cmp .lss (A.oi (A.len PL)) nw = false := by
      have e : (p.length : Int) = nw := by rw [hnw.eq, hp.len]
      rw [yoiL hA hPl, e]; subst hA; simp [ar, cmpI]
    cbv
    refine gs_done ?_
    cbv
    refine ops_call hS [.agg [I s.benches, .sl 3 TL]] [] [] rfl rfl rfl rfl rfl rfl rfl rfl (by decide) trivial (bWorks s TL hT h4 hw nw hnw _ ?_)
    refine ops_go tokT hA hS ?_
    cbv
    split
    · rename_i c5
      exact absurd (hnl.symm.trans c5) (by decide)
    cbv
    exact gh_view [] (by decide) pre0 (H' := []) (d' := .v .nilIface) trivial rfl (gh_done hq)
end Go.Proofs.YtmloogdalecilaaDoor

/-! D13 -/
namespace Go.Proofs.YtmloogdalecilaaDoor
open Go Go.Abs Go.Proofs

/-- errors.As, of no error. -/
theorem asNil (ty : TypeId) (x : Blk) (Q) (hq : Q (RA.ret (.v (.bool false))) [x]) : CallA Tryd.prog 107 [.v .nilIface, .ifc ty (.b 0 0)] [x] Q := by
  obtain ⟨A, hA⟩ : ∃ A, A = ar := ⟨_, rfl⟩
  refine callA_start tokT hA Tryd.func107 rfl rfl rfl rfl rfl fun S hS => ?_
  cbv
  exact gh_done hq

/-- A valid shop, by its check. -/
structure ShopOk (s : Sh) : Prop where
  chk : chkS s = 0
  len : s.tasks.length ≤ 4
  fin : Fin s

set_option maxRecDepth 20000 in
set_option maxHeartbeats 2000000 in
/-- bench.checkPlan, of a whole plan of a valid shop. -/
theorem bCheckPlan (s : Sh) (hs : ShopOk s) (p : List Nat) (hp : PlanOk s p) (TL PL : List D) (hT : TL = s.tasks.map taskD) (hP : PL = p.map (fun i => I (i : Nat))) (Q) (hq : Q (RA.ret (I 0)) []) :
    CallA Tryd.prog 77 [.agg [I s.benches, .sl 3 TL], .sl 1 PL] [] Q := by
  obtain ⟨A, hA⟩ : ∃ A, A = ar := ⟨_, rfl⟩
  refine callA_start tokT hA Tryd.func77 rfl rfl rfl rfl rfl fun S hS => ?_
  cbv
  refine ops_call hS [.agg [I s.benches, .sl 3 TL]] [] [] rfl rfl rfl rfl rfl rfl rfl rfl (by decide) trivial (bCheck s hs.fin TL hT 0 hs.chk.symm _ ?_)
  refine ops_go tokT hA hS ?_
  cbv
  split
  · rename_i c
    exact absurd rfl (xne hA c)
  rename_i c
  cbv
  refine ops_call hS [.agg [I s.benches, .sl 3 TL], .sl 1 PL] [] [] rfl rfl rfl rfl rfl rfl rfl rfl (by decide) trivial (bChecked s hs.len hs.fin.2 p hp TL PL hT hP _ ?_)
  refine ops_go tokT hA hS ?_
  cbv
  refine ops_call hS [.v .nilIface, .ifc 151 (.b 0 0)] [1] [.box (.agg [I 0])] rfl rfl rfl rfl rfl rfl rfl rfl (by decide) ⟨rfl, trivial⟩ (asNil 151 _ _ ?_)
  refine ops_go tokT hA hS ?_
  cbv
  exact gh_view [] (by decide) pre0 (H' := []) (d' := I 0) trivial rfl (gh_done hq)

/-- A valid shop keeps to what the clocks need. -/
theorem chkWs_zero {b : Int} : ∀ {l : List Wk}, chkWs b l = 0 → ∀ w ∈ l, chkW b w = 0
  | [], _, _, h => by simp at h
  | w :: r, e, x, hx => by
    simp only [chkWs] at e
    by_cases hw : chkW b w = 0
    · rw [if_pos hw] at e
      rcases List.mem_cons.1 hx with rfl | h
      · exact hw
      · exact chkWs_zero e x h
    · rw [if_neg hw] at e; exact absurd e hw

theorem chkTs_zero {b : Int} : ∀ {l : List Tk}, chkTs b l = 0 → ∀ t ∈ l, chkT b t = 0
  | [], _, _, h => by simp at h
  | w :: r, e, x, hx => by
    simp only [chkTs] at e
    by_cases hw : chkT b w = 0
    · rw [if_pos hw] at e
      rcases List.mem_cons.1 hx with rfl | h
      · exact hw
      · exact chkTs_zero e x h
    · rw [if_neg hw] at e; exact absurd e hw

theorem amg_iff {n lo hi : Int} : amg n lo hi = true ↔ lo ≤ n ∧ n ≤ hi := by simp [amg]
theorem ite_zero {c : Prop} [Decidable c] {x y : Int} (hx : x ≠ 0) (h : (if c then x else y) = 0) : ¬ c ∧ y = 0 := by
  by_cases hc : c
  · rw [if_pos hc] at h; exact absurd h hx
  · rw [if_neg hc] at h; exact ⟨hc, h⟩

theorem chkS_val {s : Sh} (h : chkS s = 0) : Val s := by
  unfold chkS at h
  obtain ⟨h1, h⟩ := ite_zero (by decide) h
  obtain ⟨h2, h⟩ := ite_zero (by decide) h
  have h1 : amg s.benches 1 3 = true := by simpa using h1
  rw [amg_iff] at h1
  by_cases h3 : chkTs s.benches s.tasks = 0
  · rw [if_pos h3] at h
    obtain ⟨h4, -⟩ := ite_zero (by decide) h
    have ht := chkTs_zero h3
    have hT : ∀ t ∈ s.tasks, (0 ≤ t.ready ∧ t.ready ≤ 200) ∧ (0 ≤ t.due ∧ t.due ≤ 200) ∧ t.works ≠ [] ∧ chkWs s.benches t.works = 0 := fun t hm => by
      have := ht t hm
      unfold chkT at this
      obtain ⟨a1, this⟩ := ite_zero (by decide) this
      obtain ⟨a2, this⟩ := ite_zero (by decide) this
      obtain ⟨a3, this⟩ := ite_zero (by decide) this
      have a1 : amg t.ready 0 200 = true := by simpa using a1
      have a2 : amg t.due 0 200 = true := by simpa using a2
      exact ⟨amg_iff.1 a1, amg_iff.1 a2, a3, this⟩
    refine ⟨h1.1, h1.2, by omega, fun t hm => (hT t hm).1, fun t hm => (hT t hm).2.1, fun t hm => (hT t hm).2.2.1, fun t hm w hw => ?_, by omega⟩
    have := chkWs_zero (hT t hm).2.2.2 w hw
    unfold chkW at this
    obtain ⟨a1, this⟩ := ite_zero (by decide) this
    obtain ⟨a2, this⟩ := ite_zero (by decide) this
    obtain ⟨a3, this⟩ := ite_zero (by decide) this
    obtain ⟨a4, -⟩ := ite_zero (by decide) this
    have a1 : amg w.b 0 (s.benches - 1) = true := by simpa using a1
    have a2 : amg w.lo 1 20 = true := by simpa using a2
    have a3 : amg w.hi 1 20 = true := by simpa using a3
    rw [amg_iff] at a1 a2 a3
    omega
  · rw [if_neg h3] at h; exact absurd h h3

theorem PlanOk.le {s : Sh} {p : List Nat} (h : PlanOk s p) : PlanLe s p := ⟨h.lt, fun i hi => Nat.le_of_eq (h.cnt i hi)⟩

/-- bench.Run, of a whole plan. -/
theorem bRunPlan (s : Sh) (hs : ShopOk s) (p : List Nat) (hp : PlanOk s p) (TL PL : List D) (hT : TL = s.tasks.map taskD) (hP : PL = p.map (fun i => I (i : Nat))) (Q) (hq : ∀ RL, RL = (runS s (fun _ => 0) p).map slotD → Q (RA.ret (.tup [.sl 7 RL, I 0])) []) :
    CallA Tryd.prog 33 [.agg [I s.benches, .sl 3 TL], .sl 1 PL] [] Q := by
  obtain ⟨A, hA⟩ : ∃ A, A = ar := ⟨_, rfl⟩
  have hv := chkS_val hs.chk
  have hpl : p.length ≤ 20 := by rw [hp.len]; have := hv.sum; omega
  obtain ⟨RL, hRL⟩ : ∃ RL, RL = (runS s (fun _ => 0) p).map slotD := ⟨_, rfl⟩
  refine callA_start tokT hA Tryd.func33 rfl rfl rfl rfl rfl fun S hS => ?_
  cbv
  refine ops_call hS [.agg [I s.benches, .sl 3 TL], .sl 1 PL] [] [] rfl rfl rfl rfl rfl rfl rfl rfl (by decide) trivial (bCheckPlan s hs p hp TL PL hT hP _ ?_)
  refine ops_go tokT hA hS ?_
  cbv
  split
  · rename_i c
    exact absurd rfl (xne hA c)
  rename_i c
  cbv
  refine ops_call hS [.agg [I s.benches, .sl 3 TL, .sl 1 PL], .v (.map none)] [] [] rfl rfl rfl rfl rfl rfl rfl rfl (by decide) trivial (bRun s hv p hp.le hpl TL PL hT hP _ ?_)
  rw [← hRL]
  refine ops_go tokT hA hS ?_
  cbv
  exact gh_view [] (by decide) pre0 (H' := []) (d' := .tup [.sl 7 RL, I 0]) trivial rfl (gh_done (hq RL hRL))
end Go.Proofs.YtmloogdalecilaaDoor

/-! D14 -/
namespace Go.Proofs.YtmloogdalecilaaDoor
open Go Go.Abs Go.Proofs

theorem bLast' (l : List Sl) (L : List D) (hL : L = l.map slotD) (hl : l.length ≤ 1000) (Q) (hq : ∀ lo hi, lastS l = (lo, hi) → Q (RA.ret (.agg [I lo, I hi])) []) : CallA Tryd.prog 78 [.sl 7 L] [] Q :=
  bLast l L hL hl Q (hq _ _ rfl)

theorem runS_length (s mo p) : (runS s mo p).length = p.length := by simp [runS]

/-- bench.Last, of a whole plan. -/
theorem bLastPlan (s : Sh) (hs : ShopOk s) (p : List Nat) (hp : PlanOk s p) (TL PL : List D) (hT : TL = s.tasks.map taskD) (hP : PL = p.map (fun i => I (i : Nat))) (Q) (hq : ∀ lo hi, lastS (runS s (fun _ => 0) p) = (lo, hi) → Q (RA.ret (.tup [.agg [I lo, I hi], I 0])) []) :
    CallA Tryd.prog 31 [.agg [I s.benches, .sl 3 TL], .sl 1 PL] [] Q := by
  obtain ⟨A, hA⟩ : ∃ A, A = ar := ⟨_, rfl⟩
  have hv := chkS_val hs.chk
  have hpl : p.length ≤ 20 := by rw [hp.len]; have := hv.sum; omega
  obtain ⟨RL, hRL⟩ : ∃ RL, RL = (runS s (fun _ => 0) p).map slotD := ⟨_, rfl⟩
  refine callA_start tokT hA Tryd.func31 rfl rfl rfl rfl rfl fun S hS => ?_
  cbv
  refine ops_call hS [.agg [I s.benches, .sl 3 TL], .sl 1 PL] [] [] rfl rfl rfl rfl rfl rfl rfl rfl (by decide) trivial (bCheckPlan s hs p hp TL PL hT hP _ ?_)
  refine ops_go tokT hA hS ?_
  cbv
  split
  · rename_i c
    exact absurd rfl (xne hA c)
  rename_i c
  cbv
  refine ops_call hS [.agg [I s.benches, .sl 3 TL, .sl 1 PL], .v (.map none)] [] [] rfl rfl rfl rfl rfl rfl rfl rfl (by decide) trivial (bRun s hv p hp.le hpl TL PL hT hP _ ?_)
  rw [← hRL]
  refine ops_go tokT hA hS ?_
  cbv
  refine ops_call hS [.sl 7 RL] [] [] rfl rfl rfl rfl rfl rfl rfl rfl (by decide) trivial (bLast' _ RL hRL (by rw [runS_length]; omega) _ fun lo hi hlh => ?_)
  refine ops_go tokT hA hS ?_
  cbv
  exact gh_view [] (by decide) pre0 (H' := []) (d' := .tup [.agg [I lo, I hi], I 0]) trivial rfl (gh_done (hq lo hi hlh))

/-! Slack. -/
def mo1 (a : Nat) (x : Int) : Nat → Int := fun n => if n = a then x else 0
def lastM (s : Sh) (p : List Nat) (a : Nat) (x : Int) : Int := (lastS (runS s (mo1 a x) p)).2
def slkN (s : Sh) (p : List Nat) (e : Int) (a : Nat) : Nat → Nat → Nat
  | 0, n => n
  | f + 1, n => if lastM s p a ((n + 1 : Nat) : Int) ≤ e then slkN s p e a f (n + 1) else n

theorem foldl_max2 (l : List Sl) : ∀ a : Int × Int, a.2 ≤ (l.foldl (fun a s => (max a.1 s.el, max a.2 s.eh)) a).2 ∧ ∀ x ∈ l, x.eh ≤ (l.foldl (fun a s => (max a.1 s.el, max a.2 s.eh)) a).2 := by
  induction l with
  | nil => exact fun a => ⟨Int.le_refl _, fun x hx => by simp at hx⟩
  | cons y r ih =>
    intro a
    obtain ⟨h1, h2⟩ := ih (max a.1 y.el, max a.2 y.eh)
    simp only [List.foldl_cons]
    simp only at h1
    refine ⟨by omega, fun x hx => ?_⟩
    rcases List.mem_cons.1 hx with rfl | hx
    · omega
    · exact h2 x hx

theorem lastS_ge {l : List Sl} {x : Sl} (h : x ∈ l) : x.eh ≤ (lastS l).2 := (foldl_max2 l (0, 0)).2 x h

theorem foldl_max2_le (l : List Sl) (B : Int) (h : ∀ x ∈ l, x.eh ≤ B) : ∀ a : Int × Int, a.2 ≤ B → (l.foldl (fun a s => (max a.1 s.el, max a.2 s.eh)) a).2 ≤ B := by
  induction l with
  | nil => exact fun a ha => ha
  | cons y r ih =>
    intro a ha
    simp only [List.foldl_cons]
    refine ih (fun x hx => h x (List.mem_cons_of_mem _ hx)) _ ?_
    have := h y List.mem_cons_self
    simp only; omega

theorem slk_bound {s : Sh} {p : List Nat} {mo : Nat → Int} {M : Int} (hv : Val s) (hp : PlanLe s p) (hpl : p.length ≤ 8) (hM : 0 ≤ M) (hm : ∀ a, 0 ≤ mo a ∧ mo a ≤ M) {n : Nat} (hn : n < p.length) :
    ∃ x ∈ runS s mo p, mo n ≤ x.eh ∧ x.eh ≤ 200 + 8 * (20 + M) := by
  refine ⟨_, List.mem_map.2 ⟨n, List.mem_range.2 hn, rfl⟩, ?_⟩
  have hpn : p[n]? = some p[n] := List.getElem?_eq_getElem hn
  have hpd : p.getD n 0 = p[n] := by rw [List.getD_eq_getElem?_getD, hpn]; rfl
  have hst := step_ok (sd := true) hv hp hM hm hpn (ck_ok (sd := true) hv hp hM hm n (by omega)) n
  obtain ⟨h1, h2, h3, h4, h5, h6⟩ := hst
  simp only [hpd]
  obtain ⟨w1, w2, w3, w4, w5⟩ := work_ok hv h1 (by rw [← h2] at h3; exact h3)
  have he : (stepC true s (ckAt true s mo (initC s) 0 p n) p[n] (mo n)).en = (stepC true s (ckAt true s mo (initC s) 0 p n) p[n] (mo n)).bg + (workAt s p[n] (stepC true s (ckAt true s mo (initC s) 0 p n) p[n] (mo n)).k).hi + mo n := rfl
  rw [he]
  have hnb : (n : Int) * (20 + M) ≤ 7 * (20 + M) := Int.mul_le_mul_of_nonneg_right (by omega) (by omega)
  have := hm n
  constructor <;> omega
end Go.Proofs.YtmloogdalecilaaDoor

/-! D15 -/
namespace Go.Proofs.YtmloogdalecilaaDoor
open Go Go.Abs Go.Proofs

theorem eh_bound {s : Sh} {p : List Nat} {mo : Nat → Int} {M : Int} (hv : Val s) (hp : PlanLe s p) (hpl : p.length ≤ 8) (hM : 0 ≤ M) (hm : ∀ a, 0 ≤ mo a ∧ mo a ≤ M) : ∀ x ∈ runS s mo p, x.eh ≤ 200 + 8 * (20 + M) := fun x hx => by
  obtain ⟨n, hn, rfl⟩ := List.mem_map.1 hx
  have hn := List.mem_range.1 hn
  have hpn : p[n]? = some p[n] := List.getElem?_eq_getElem hn
  have hpd : p.getD n 0 = p[n] := by rw [List.getD_eq_getElem?_getD, hpn]; rfl
  obtain ⟨h1, h2, h3, h4, h5, h6⟩ := step_ok (sd := true) hv hp hM hm hpn (ck_ok (sd := true) hv hp hM hm n (by omega)) n
  simp only [hpd]
  obtain ⟨w1, w2, w3, w4, w5⟩ := work_ok hv h1 (by rw [← h2] at h3; exact h3)
  have he : (stepC true s (ckAt true s mo (initC s) 0 p n) p[n] (mo n)).en = (stepC true s (ckAt true s mo (initC s) 0 p n) p[n] (mo n)).bg + (workAt s p[n] (stepC true s (ckAt true s mo (initC s) 0 p n) p[n] (mo n)).k).hi + mo n := rfl
  rw [he]
  have hnb : (n : Int) * (20 + M) ≤ 7 * (20 + M) := Int.mul_le_mul_of_nonneg_right (by omega) (by omega)
  have := hm n
  omega

theorem last_bound {s : Sh} {p : List Nat} {mo : Nat → Int} {M : Int} (hv : Val s) (hp : PlanLe s p) (hpl : p.length ≤ 8) (hM : 0 ≤ M) (hm : ∀ a, 0 ≤ mo a ∧ mo a ≤ M) : (lastS (runS s mo p)).2 ≤ 200 + 8 * (20 + M) :=
  foldl_max2_le _ _ (eh_bound hv hp hpl hM hm) _ (by simp only; omega)

theorem lastM_ge {s : Sh} {p : List Nat} (hv : Val s) (hp : PlanLe s p) (hpl : p.length ≤ 8) {a : Nat} (ha : a < p.length) {x : Int} (hx : 0 ≤ x) : x ≤ lastM s p a x := by
  obtain ⟨y, h1, h2, -⟩ := slk_bound (mo := mo1 a x) (M := x) hv hp hpl hx (fun b => by simp only [mo1]; split <;> omega) ha
  simp only [mo1, if_true] at h2
  exact Int.le_trans h2 (lastS_ge h1)

theorem xapp {A : Ar} (hA : A = ar) (l r : List D) : A.app l r = l ++ r := by subst hA; rfl

theorem yroom1 {A : Ar} (hA : A = ar) {k b : Nat} (hk : k ≤ 1000000) (hb : b ≤ 1000) : A.room (A.addN k 1) b := by
  subst hA
  have : (k + 1) * b ≤ 1000001 * 1000 := Nat.mul_le_mul (by omega) hb
  exact ⟨by show (k + 1) * b ≤ 140737488355328; omega, by show k + 1 ≤ 4611686018427387904; omega⟩
theorem yeqLen {A : Ar} (hA : A = ar) {l : List D} {n : Nat} (h : l.length = n) : A.eqN n (A.len l) := by subst hA; exact h.symm

def slackL (s : Sh) (p : List Nat) : List Nat := (List.range p.length).map fun a => slkN s p (lastS (runS s (fun _ => 0) p)).2 a 400 0

theorem mget1 {A : Ar} (hA : A = ar) {i j : Int} {a b : Nat} (h1 : IsI i a) (h2 : IsI j b) (x : Int) : A.mget (A.mput [] [i] (I x)) [j] (I 0) = some (I (mo1 a x b)) := by
  subst hA
  have e1 := h1.eq; have e2 := h2.eq
  subst e1 e2
  by_cases h : b = a
  · subst h; simp [ar, mo1]
  · have : ¬ ((a : Int) = (b : Int)) := by omega
    simp [ar, mo1, h, this]

set_option maxRecDepth 20000 in
set_option maxHeartbeats 2000000 in
/-- bench.planned.slack. -/
theorem bSlackIn (s : Sh) (hv : Val s) (p : List Nat) (hp : PlanLe s p) (hpl : p.length ≤ 8) (TL PL : List D) (hT : TL = s.tasks.map taskD) (hP : PL = p.map (fun i => I (i : Nat))) (Q) (hq : ∀ L, L = (slackL s p).map (fun n : Nat => I (n : Int)) → Q (RA.ret (.sl 1 L)) []) :
    CallA Tryd.prog 85 [.agg [I s.benches, .sl 3 TL, .sl 1 PL]] [] Q := by
  obtain ⟨A, hA⟩ : ∃ A, A = ar := ⟨_, rfl⟩
  have hPl : PL.length = p.length := by rw [hP]; simp
  obtain ⟨RL, hRL⟩ : ∃ RL, RL = (runS s (fun _ => 0) p).map slotD := ⟨_, rfl⟩
  refine callA_start tokT hA Tryd.func85 rfl rfl rfl rfl rfl fun S hS => ?_
  cbv
  refine ops_call hS [.agg [I s.benches, .sl 3 TL, .sl 1 PL], .v (.map none)] [] [] rfl rfl rfl rfl rfl rfl rfl rfl (by decide) trivial (bRun s hv p hp (by omega) TL PL hT hP _ ?_)
  rw [← hRL]
  refine ops_go tokT hA hS ?_
  cbv
  refine ops_call hS [.sl 7 RL] [] [] rfl rfl rfl rfl rfl rfl rfl rfl (by decide) trivial (bLast' _ RL hRL (by rw [runS_length]; omega) _ fun lo e hlh => ?_)
  have he : e = (lastS (runS s (fun _ => 0) p)).2 := by rw [hlh]
  have he2 : e ≤ 360 := by rw [he]; exact last_bound (M := 0) hv hp hpl (by decide) (fun _ => ⟨by decide, by decide⟩)
  refine ops_go tokT hA hS ?_
  cbv
  refine at_code hS ?_
  refine wpa_loopG (α := Int × Nat × List D) (fun q => { env := [(1, .b 0 0), (3, I e), (4, .o 1 1 q.2.1), (12, .sl 1 PL), (13, I (A.oi (A.len PL))), (14, I q.1)], H := [.box (.agg [I s.benches, .sl 3 TL, .sl 1 PL]), .els 1 q.2.2], nt := 36, dfs := [] })
    (fun q => p.length - q.2.1) (fun q => q.2.1 ≤ p.length ∧ IsI q.1 q.2.1 ∧ q.2.2 = ((slackL s p).take q.2.1).map (fun n : Nat => I (n : Int))) (0, 0, []) ⟨Nat.zero_le _, ⟨rfl⟩, rfl⟩ ?_ ?_
  · refine gs_virt 4 1 rfl ?_
    exact gs_to [0, 1] ⟨by decide, pre0, ⟨rfl, rfl, trivial⟩, ⟨rfl, rfl, rfl, rfl, rfl, rfl, trivial⟩, rfl, rfl⟩
  rintro ⟨i, k, L⟩ ⟨u1, u2, u3⟩
  dsimp only at u1 u2 u3
  refine wp_go tokT hA hS ?_
  cbv
  split
  · rename_i c
    have hk : k < p.length := yltL hA hPl u2 c
    cbv
    refine at_code hS ?_
    refine wpa_loopG (α := Int × Nat) (fun q => { env := [(1, .b 0 0), (3, I e), (4, .o 1 1 k), (5, I i), (6, I q.1), (12, .sl 1 PL), (13, I (A.oi (A.len PL))), (14, I i)], H := [.box (.agg [I s.benches, .sl 3 TL, .sl 1 PL]), .els 1 L], nt := 36, dfs := [] })
      (fun q => 361 - q.2) (fun q => q.2 ≤ 360 ∧ IsI q.1 q.2 ∧ slkN s p e k 400 0 = slkN s p e k (400 - q.2) q.2) (0, 0) ⟨Nat.zero_le _, ⟨rfl⟩, rfl⟩ ?_ ?_
    · exact gs_to [0, 1] ⟨by decide, pre0, ⟨rfl, rfl, trivial⟩, ⟨rfl, rfl, rfl, rfl, rfl, rfl, rfl, rfl, trivial⟩, rfl, rfl⟩
    rintro ⟨x, n⟩ ⟨v1, v2, v3⟩
    dsimp only at v1 v2 v3
    have hsx := ysucc hA v2
    obtain ⟨y, hy⟩ : ∃ y, y = A.add x 1 := ⟨_, rfl⟩
    rw [← hy] at hsx
    have hyb : 0 ≤ y ∧ y ≤ 361 := by have := hsx.eq; omega
    have hm : ∀ a, 0 ≤ mo1 k y a ∧ mo1 k y a ≤ 361 := fun a => by simp only [mo1]; split <;> omega
    have hn1 : y ≤ 360 → n + 1 ≤ 360 := fun h => by have := hsx.eq; omega
    have hstep : lastM s p k y ≤ e → slkN s p e k 400 0 = slkN s p e k (400 - (n + 1)) (n + 1) := fun h => by
      have e3 : 400 - n = (400 - (n + 1)) + 1 := by omega
      rw [hsx.eq] at h
      rw [v3, e3, slkN, if_pos h]
    have hfin : e < lastM s p k y → slkN s p e k 400 0 = n := fun h => by
      have e3 : 400 - n = (400 - n - 1) + 1 := by omega
      rw [hsx.eq] at h
      rw [v3, e3, slkN, if_neg (by omega)]
    have hge0 := lastM_ge hv hp hpl hk (x := y) hyb.1
    have hms : 361 - (n + 1) < 361 - n := by omega
    obtain ⟨RM, hRM⟩ : ∃ RM, RM = (runS s (mo1 k y) p).map slotD := ⟨_, rfl⟩
    refine wp_go tokT hA hS ?_
    cbv
    refine ⟨yfit1 hA v2 (by omega), ⟨[i], rfl, ?_⟩⟩
    cbv
    refine ops_call hS [.agg [I s.benches, .sl 3 TL, .sl 1 PL], .mv 0] [2] [.ob (.mp 0 (A.mput [] [i] (I (A.add x 1))))] rfl rfl rfl rfl rfl rfl rfl rfl (by decide) ⟨rfl, trivial⟩ (bRunM s hv p hp (by omega) TL PL hT hP (mo1 k y) 361 (by decide) hm _ (fun a m ha hmp A' hA' => by rw [hA', ← hA, ← hy]; exact mget1 hA u2 ha y) _ ?_)
    rw [← hRM]
    refine ops_go tokT hA hS ?_
    cbv
    refine ops_call hS [.sl 7 RM] [] [] rfl rfl rfl rfl rfl rfl rfl rfl (by decide) trivial (bLast' _ RM hRM (by rw [runS_length]; omega) _ fun lo2 e2 hlh2 => ?_)
    have he3 : lastM s p k y = e2 := by rw [lastM, hlh2]
    refine ops_go tokT hA hS ?_
    cbv
    split
    · rename_i c2
      have d2 := xle hA c2
      rw [← he3] at d2
      cbv
      refine ⟨yfit1 hA v2 (by omega), ?_⟩
      refine gs_loop (A.add x 1, n + 1) [0, 1] ⟨hn1 (Int.le_trans hge0 (Int.le_trans d2 he2)), ysucc hA v2, hstep d2⟩ hms ?_
      exact ⟨by decide, pre0, ⟨rfl, rfl, trivial⟩, ⟨rfl, rfl, rfl, rfl, rfl, rfl, rfl, rfl, trivial⟩, rfl, rfl⟩
    · rename_i c2
      have d2 := xnle hA c2
      rw [← he3] at d2
      have hL2 : A.app L [I x] = ((slackL s p).take (k + 1)).map (fun n : Nat => I (n : Int)) := by
        have e4 : (slackL s p)[k]? = some n := by
          rw [slackL, List.getElem?_map, List.getElem?_range hk]; simp only [Option.map_some, Option.some.injEq]; rw [← he]; exact hfin d2
        rw [List.take_add_one, e4, xapp hA, u3, v2.eq]; simp
      have hLl : L.length = k := by rw [u3]; simp [slackL]; omega
      cbv
      refine gs_done ?_
      cbv
      refine ⟨yeqLen hA hLl, yeqLen hA rfl, yroom1 hA (by omega) (by decide), yfit1 hA u2 (by omega), ?_⟩
      refine gs_loop (A.add i 1, k + 1, A.app L [I x]) [0, 4] ⟨hk, ysucc hA u2, hL2⟩ (by simp only; omega) ?_
      exact ⟨by decide, pre0, ⟨rfl, rfl, trivial⟩, ⟨rfl, rfl, by subst hA; rfl, rfl, rfl, rfl, trivial⟩, rfl, rfl⟩
  · rename_i c
    have hk : p.length ≤ k := ynltL hA hPl u2 c
    cbv
    refine gs_done ?_
    cbv
    refine gh_frz [1] ?_
    cbv
    have hLs : L = (slackL s p).map (fun n : Nat => I (n : Int)) := by rw [u3, List.take_of_length_le (by simp [slackL]; omega)]
    have hLl : L.length = k := by rw [u3]; simp [slackL]; omega
    exact ⟨by cases L <;> exact hLl.symm, gh_view [] (by decide) pre0 (H' := []) (d' := .sl 1 L) trivial rfl (gh_done (hq L hLs))⟩
end Go.Proofs.YtmloogdalecilaaDoor

/-! D16 -/
namespace Go.Proofs.YtmloogdalecilaaDoor
open Go Go.Abs Go.Proofs

/-- bench.Slack, of a whole plan. -/
theorem bSlackPlan (s : Sh) (hs : ShopOk s) (p : List Nat) (hp : PlanOk s p) (TL PL : List D) (hT : TL = s.tasks.map taskD) (hP : PL = p.map (fun i => I (i : Nat))) (Q) (hq : ∀ L, L = (slackL s p).map (fun n : Nat => I (n : Int)) → Q (RA.ret (.tup [.sl 1 L, I 0])) []) :
    CallA Tryd.prog 38 [.agg [I s.benches, .sl 3 TL], .sl 1 PL] [] Q := by
  obtain ⟨A, hA⟩ : ∃ A, A = ar := ⟨_, rfl⟩
  have hv := chkS_val hs.chk
  have hpl : p.length ≤ 8 := by rw [hp.len]; have := hv.sum; omega
  refine callA_start tokT hA Tryd.func38 rfl rfl rfl rfl rfl fun S hS => ?_
  cbv
  refine ops_call hS [.agg [I s.benches, .sl 3 TL], .sl 1 PL] [] [] rfl rfl rfl rfl rfl rfl rfl rfl (by decide) trivial (bCheckPlan s hs p hp TL PL hT hP _ ?_)
  refine ops_go tokT hA hS ?_
  cbv
  split
  · rename_i c
    exact absurd rfl (xne hA c)
  rename_i c
  cbv
  refine ops_call hS [.agg [I s.benches, .sl 3 TL, .sl 1 PL]] [] [] rfl rfl rfl rfl rfl rfl rfl rfl (by decide) trivial (bSlackIn s hv p hp.le hpl TL PL hT hP _ fun L hL => ?_)
  refine ops_go tokT hA hS ?_
  cbv
  exact gh_view [] (by decide) pre0 (H' := []) (d' := .tup [.sl 1 L, I 0]) trivial rfl (gh_done (hq L hL))

/-- slot.compare. -/
theorem bCmp (t k b bl bh el eh t' k' b' bl' bh' el' eh' : Int) (hk : 0 ≤ k ∧ k ≤ 1000) (hk' : 0 ≤ k' ∧ k' ≤ 1000) (Q) (hq : ∀ x, x = k - k' → Q (RA.ret (I x)) []) :
    CallA Tryd.prog 113 [.agg [I t, I k, I b, I bl, I bh, I el, I eh], .agg [I t', I k', I b', I bl', I bh', I el', I eh']] [] Q := by
  obtain ⟨A, hA⟩ : ∃ A, A = ar := ⟨_, rfl⟩
  have hf : A.fits .i64 (A.sub k k') := xfitE hA (xsub hA k k') (by omega)
  have hx := xsub hA k k'
  refine callA_start tokT hA Tryd.func113 rfl rfl rfl rfl rfl fun S hS => ?_
  cbv
  exact ⟨hf, gh_view [] (by decide) pre0 (H' := []) (d' := I (A.sub k k')) trivial rfl (gh_done (hq _ hx))⟩

/-! Sorting. -/
def swp (l : List Sl) (j : Nat) : List Sl :=
  match l[j]?, l[j - 1]? with
  | some x, some y => (l.set j y).set (j - 1) x
  | _, _ => l
def bub : List Sl → Nat → List Sl
  | l, 0 => l
  | l, j + 1 => match l[j + 1]?, l[j]? with
    | some x, some y => if x.k < y.k then bub (swp l (j + 1)) j else l
    | _, _ => l
/-- The places from i on are put in, as many as n. -/
def insS : List Sl → Nat → Nat → List Sl
  | l, _, 0 => l
  | l, i, n + 1 => insS (bub l i) (i + 1) n
def sortS (l : List Sl) : List Sl := insS l 1 (l.length - 1)

theorem swp_length (l : List Sl) (j : Nat) : (swp l j).length = l.length := by
  unfold swp; split <;> simp

theorem bub_length : ∀ (j : Nat) (l : List Sl), (bub l j).length = l.length
  | 0, l => rfl
  | j + 1, l => by
    unfold bub
    split
    · split
      · rw [bub_length j, swp_length]
      · rfl
    · rfl

theorem swp_mem {l : List Sl} {j : Nat} {x : Sl} (h : x ∈ swp l j) : x ∈ l := by
  unfold swp at h
  split at h
  · rename_i a b h1 h2
    rcases List.mem_or_eq_of_mem_set h with h | rfl
    · rcases List.mem_or_eq_of_mem_set h with h | rfl
      · exact h
      · exact List.mem_of_getElem? h2
    · exact List.mem_of_getElem? h1
  · exact h

theorem bub_mem : ∀ {j : Nat} {l : List Sl} {x : Sl}, x ∈ bub l j → x ∈ l
  | 0, l, x, h => h
  | j + 1, l, x, h => by
    unfold bub at h
    split at h
    · split at h
      · exact swp_mem (bub_mem h)
      · exact h
    · exact h
end Go.Proofs.YtmloogdalecilaaDoor

/-! P1 -/
namespace Go.Proofs.YtmloogdalecilaaDoor
open Go Go.Abs Go.Proofs

/-! The insertion sort sorts. -/
def insRev (x : Sl) : List Sl → List Sl
  | [] => [x]
  | y :: r => if x.k < y.k then y :: insRev x r else x :: y :: r

theorem insRev_perm (x : Sl) : ∀ l, (insRev x l).Perm (x :: l)
  | [] => .refl _
  | y :: r => by
    unfold insRev
    split
    · exact ((insRev_perm x r).cons y).trans (.swap x y r)
    · exact .refl _

theorem insRev_sorted (x : Sl) : ∀ l : List Sl, l.Pairwise (fun a b => b.k ≤ a.k) → (insRev x l).Pairwise (fun a b => b.k ≤ a.k)
  | [], _ => by simp [insRev]
  | y :: r, h => by
    have h1 := List.pairwise_cons.1 h
    unfold insRev
    split
    · rename_i c
      refine List.pairwise_cons.2 ⟨fun z hz => ?_, insRev_sorted x r h1.2⟩
      rcases List.mem_cons.1 ((insRev_perm x r).mem_iff.1 hz) with rfl | hz
      · omega
      · exact h1.1 z hz
    · rename_i c
      refine List.pairwise_cons.2 ⟨fun z hz => ?_, h⟩
      rcases List.mem_cons.1 hz with rfl | hz
      · omega
      · have := h1.1 z hz; omega

theorem bub_eq (x : Sl) : ∀ (q : List Sl) (suf : List Sl), bub (q.reverse ++ x :: suf) q.length = (insRev x q).reverse ++ suf
  | [], suf => by simp [bub, insRev]
  | y :: q, suf => by
    have e1 : (y :: q).reverse ++ x :: suf = q.reverse ++ y :: x :: suf := by simp
    have g1 : (q.reverse ++ y :: x :: suf)[q.length + 1]? = some x := by
      rw [List.getElem?_append_right (by simp)]; simp
    have g2 : (q.reverse ++ y :: x :: suf)[q.length]? = some y := by
      rw [List.getElem?_append_right (by simp)]; simp
    rw [e1, List.length_cons, bub, g1, g2]
    simp only [insRev]
    split
    · have : swp (q.reverse ++ y :: x :: suf) (q.length + 1) = q.reverse ++ x :: y :: suf := by
        unfold swp
        rw [g1, Nat.add_sub_cancel, g2]
        simp only
        rw [List.set_append_right _ _ (by simp), List.set_append_right _ _ (by simp)]
        simp
      rw [this, bub_eq x q (y :: suf)]
      simp
    · simp

theorem insS_ok : ∀ (n : Nat) (l : List Sl) (i : Nat), i + n = l.length → (l.take i).Pairwise (fun a b => a.k ≤ b.k) → (insS l i n).Perm l ∧ (insS l i n).Pairwise (fun a b => a.k ≤ b.k)
  | 0, l, i, h, hs => by
    rw [List.take_of_length_le (by omega)] at hs
    exact ⟨.refl _, hs⟩
  | n + 1, l, i, h, hs => by
    have hi : i < l.length := by omega
    have el : l = (l.take i).reverse.reverse ++ l[i] :: l.drop (i + 1) := by
      rw [List.reverse_reverse, ← List.drop_eq_getElem_cons hi, List.take_append_drop]
    have eb : bub l i = (insRev l[i] (l.take i).reverse).reverse ++ l.drop (i + 1) := by
      have := bub_eq l[i] (l.take i).reverse (l.drop (i + 1))
      rw [← el] at this
      rw [← this]; congr 1; simp; omega
    have hp : (bub l i).Perm l := by
      rw [eb]
      conv => rhs; rw [el]
      refine ((List.reverse_perm _).trans (insRev_perm _ _)).append_right _ |>.trans ?_
      refine (List.perm_middle.symm).trans ?_ |>.trans (.refl _)
      rw [List.reverse_reverse]
      exact ((List.reverse_perm _).append_right _)
    have hs2 : ((bub l i).take (i + 1)).Pairwise (fun a b => a.k ≤ b.k) := by
      rw [eb, List.take_append_of_le_length (by simp [(insRev_perm _ _).length_eq]; omega), List.take_of_length_le (by simp [(insRev_perm _ _).length_eq]; omega)]
      rw [List.pairwise_reverse]
      refine insRev_sorted _ _ ?_
      rw [List.pairwise_reverse]
      exact hs
    obtain ⟨r1, r2⟩ := insS_ok n (bub l i) (i + 1) (by rw [bub_length]; omega) hs2
    exact ⟨r1.trans hp, r2⟩

theorem sortS_ok (l : List Sl) : (sortS l).Perm l ∧ (sortS l).Pairwise (fun a b => a.k ≤ b.k) := by
  unfold sortS
  cases l with
  | nil => exact ⟨.refl _, .nil⟩
  | cons x r => exact insS_ok _ _ 1 (by simp; omega) (by simp)

/-! When orders end. -/
def endsF (n : Nat) (l : List Sl) : List (Int × Int) := l.foldl (fun a x => a.set x.t.toNat (x.el, x.eh)) (List.replicate n (0, 0))

theorem endsF_len (l : List Sl) : ∀ a : List (Int × Int), (l.foldl (fun a x => a.set x.t.toNat (x.el, x.eh)) a).length = a.length := by
  induction l with
  | nil => exact fun _ => rfl
  | cons x r ih => exact fun a => by rw [List.foldl_cons, ih]; simp

/-- What stands at an order's place: what its last slot says. -/
theorem endsF_get (l : List Sl) (hk : l.Pairwise (fun a b => a.t = b.t → a.k ≤ b.k)) (hu : ∀ a ∈ l, ∀ b ∈ l, a.t = b.t → a.k = b.k → a = b) (ht : ∀ a ∈ l, 0 ≤ a.t) {x : Sl} (hx : x ∈ l) (hm : ∀ y ∈ l, y.t = x.t → y.k ≤ x.k) :
    ∀ a : List (Int × Int), x.t.toNat < a.length → (l.foldl (fun a x => a.set x.t.toNat (x.el, x.eh)) a)[x.t.toNat]? = some (x.el, x.eh) := by
  induction l with
  | nil => simp at hx
  | cons y r ih =>
    intro a ha
    have hk1 := List.pairwise_cons.1 hk
    rw [List.foldl_cons]
    by_cases hr : x ∈ r
    · exact ih hk1.2 (fun a ha b hb => hu a (List.mem_cons_of_mem _ ha) b (List.mem_cons_of_mem _ hb)) (fun a ha => ht a (List.mem_cons_of_mem _ ha)) hr (fun y hy => hm y (List.mem_cons_of_mem _ hy)) _ (by simpa using ha)
    · have e : x = y := (List.mem_cons.1 hx).resolve_right hr
      subst e
      have none : ∀ z ∈ r, z.t ≠ x.t := fun z hz e => by
        have h1 := hk1.1 z hz e.symm
        have h2 := hm z (List.mem_cons_of_mem _ hz) e
        have := hu x List.mem_cons_self z (List.mem_cons_of_mem _ hz) e.symm (by omega)
        subst this; exact hr hz
      have keep : ∀ (r : List Sl) (a : List (Int × Int)), (∀ z ∈ r, z.t ≠ x.t ∧ 0 ≤ z.t) → (r.foldl (fun a x => a.set x.t.toNat (x.el, x.eh)) a)[x.t.toNat]? = a[x.t.toNat]? := by
        intro r
        induction r with
        | nil => exact fun _ _ => rfl
        | cons z r ih2 =>
          intro a hz
          rw [List.foldl_cons, ih2 _ (fun z hz' => hz z (List.mem_cons_of_mem _ hz')), List.getElem?_set_ne]
          have := hz z List.mem_cons_self
          have := ht x List.mem_cons_self
          omega
      rw [keep r _ (fun z hz => ⟨none z hz, ht z (List.mem_cons_of_mem _ hz)⟩), List.getElem?_set_self ha]

theorem endsF_keep (t : Nat) (r : List Sl) (hz : ∀ z ∈ r, z.t.toNat ≠ t) : ∀ a : List (Int × Int), (r.foldl (fun a x => a.set x.t.toNat (x.el, x.eh)) a)[t]? = a[t]? := by
  induction r with
  | nil => exact fun _ => rfl
  | cons z r ih =>
    intro a
    rw [List.foldl_cons, ih (fun z hz' => hz z (List.mem_cons_of_mem _ hz')), List.getElem?_set_ne (hz z List.mem_cons_self)]

theorem exists_last (l : List Sl) (t : Int) (h : ∃ x ∈ l, x.t = t) : ∃ x ∈ l, x.t = t ∧ ∀ y ∈ l, y.t = t → y.k ≤ x.k := by
  induction l with
  | nil => obtain ⟨x, hx, -⟩ := h; simp at hx
  | cons z r ih =>
    by_cases hr : ∃ x ∈ r, x.t = t
    · obtain ⟨x, h1, h2, h3⟩ := ih hr
      by_cases hz : z.t = t ∧ x.k ≤ z.k
      · refine ⟨z, List.mem_cons_self, hz.1, fun y hy e => ?_⟩
        rcases List.mem_cons.1 hy with rfl | hy
        · omega
        · have := h3 y hy e; omega
      · refine ⟨x, List.mem_cons_of_mem _ h1, h2, fun y hy e => ?_⟩
        rcases List.mem_cons.1 hy with rfl | hy
        · have := fun h => hz ⟨e, h⟩; omega
        · exact h3 y hy e
    · obtain ⟨x, hx, e⟩ := h
      have : x = z := (List.mem_cons.1 hx).resolve_right (fun h => hr ⟨x, h, e⟩)
      subst this
      refine ⟨x, List.mem_cons_self, e, fun y hy e' => ?_⟩
      rcases List.mem_cons.1 hy with rfl | hy
      · omega
      · exact absurd ⟨y, hy, e'⟩ hr

theorem endsF_sort (n : Nat) (l : List Sl) (hk : l.Pairwise (fun a b => a.t = b.t → a.k < b.k)) (ht : ∀ a ∈ l, 0 ≤ a.t) : endsF n (sortS l) = endsF n l := by
  obtain ⟨hp, hs⟩ := sortS_ok l
  have hu : ∀ a ∈ l, ∀ b ∈ l, a.t = b.t → a.k = b.k → a = b := by
    have := hk
    induction l with
    | nil => intro a ha; simp at ha
    | cons z r ih =>
      have h1 := List.pairwise_cons.1 hk
      have hr := ih h1.2 (fun a ha => ht a (List.mem_cons_of_mem _ ha)) (sortS_ok r).1 (sortS_ok r).2 h1.2
      intro a ha b hb e1 e2
      rcases List.mem_cons.1 ha with ea | ha <;> rcases List.mem_cons.1 hb with eb | hb
      · rw [ea, eb]
      · have := h1.1 b hb (by rw [← ea]; exact e1); rw [← ea] at this; omega
      · have := h1.1 a ha (by rw [← eb]; exact e1.symm); rw [← eb] at this; omega
      · exact hr a ha b hb e1 e2
  refine List.ext_getElem? fun t => ?_
  by_cases hn : t < n
  · by_cases he : ∃ x ∈ l, x.t = (t : Int)
    · obtain ⟨x, h1, h2, h3⟩ := exists_last l t he
      have et : x.t.toNat = t := by omega
      have r1 := endsF_get (sortS l) (hs.imp (S := fun (a b : Sl) => a.t = b.t → a.k ≤ b.k) fun h _ => h) (fun a ha b hb => hu a (hp.mem_iff.1 ha) b (hp.mem_iff.1 hb)) (fun a ha => ht a (hp.mem_iff.1 ha)) (hp.mem_iff.2 h1) (fun y hy e => h3 y (hp.mem_iff.1 hy) (e.trans h2)) (List.replicate n (0, 0)) (by simp; omega)
      have r2 := endsF_get l (hk.imp (S := fun (a b : Sl) => a.t = b.t → a.k ≤ b.k) fun h e => by have := h e; omega) hu ht h1 (fun y hy e => h3 y hy (e.trans h2)) (List.replicate n (0, 0)) (by simp; omega)
      rw [et] at r1 r2
      exact r1.trans r2.symm
    · have hz : ∀ z ∈ l, z.t.toNat ≠ t := fun z hz e => he ⟨z, hz, by have := ht z hz; omega⟩
      unfold endsF
      rw [endsF_keep t l hz, endsF_keep t (sortS l) (fun z h => hz z (hp.mem_iff.1 h))]
  · rw [List.getElem?_eq_none (by simp [endsF, endsF_len]; omega), List.getElem?_eq_none (by simp [endsF, endsF_len]; omega)]
end Go.Proofs.YtmloogdalecilaaDoor

/-! P2 -/
namespace Go.Proofs.YtmloogdalecilaaDoor
open Go Go.Abs Go.Proofs

/-- A work that is done, if it takes some hours. -/
structure Stt where
  t : Int
  k : Int
  b : Int
  bg : Int
  en : Int
  deriving DecidableEq
def sttOf (sd : Bool) (x : Sl) : Stt := ⟨x.t, x.k, x.b, pk sd x.bl x.bh, pk sd x.el x.eh⟩

/-- The latest end of those that c picks. -/
def fo (c : Stt → Bool) (a : Int) (l : List Stt) : Int := l.foldl (fun m o => if c o then max m o.en else m) a

theorem fo_snoc (c : Stt → Bool) (a : Int) (l : List Stt) (o : Stt) : fo c a (l ++ [o]) = if c o then max (fo c a l) o.en else fo c a l := by
  simp only [fo, List.foldl_append, List.foldl_cons, List.foldl_nil]

theorem fo_or (c1 c2 : Stt → Bool) : ∀ (l : List Stt) (a b : Int), fo (fun o => c1 o || c2 o) (max a b) l = max (fo c1 a l) (fo c2 b l)
  | [], a, b => rfl
  | o :: l, a, b => by
    have ih := fo_or c1 c2 l
    simp only [fo, List.foldl_cons] at ih ⊢
    have b1 : c1 o = false ∨ c1 o = true := by cases c1 o <;> simp
    have b2 : c2 o = false ∨ c2 o = true := by cases c2 o <;> simp
    rcases b1 with h1 | h1 <;> rcases b2 with h2 | h2 <;> simp only [h1, h2, Bool.or_false, Bool.or_true, Bool.false_eq_true, if_false, if_true]
    · exact ih a b
    · rw [Int.max_assoc]; exact ih a _
    · rw [show max (max a b) o.en = max (max a o.en) b by omega]; exact ih _ b
    · rw [show max (max a b) o.en = max (max a o.en) (max b o.en) by omega]; exact ih _ _

section
variable {s : Sh} {p : List Nat}

theorem run_at (mo : Nat → Int) {n i : Nat} (h : p[n]? = some i) : (runS s mo p)[n]? = some ⟨i, (stepC false s (ckAt false s mo (initC s) 0 p n) i (mo n)).k, (stepC false s (ckAt false s mo (initC s) 0 p n) i (mo n)).b, (stepC false s (ckAt false s mo (initC s) 0 p n) i (mo n)).bg, (stepC true s (ckAt true s mo (initC s) 0 p n) i (mo n)).bg, (stepC false s (ckAt false s mo (initC s) 0 p n) i (mo n)).en, (stepC true s (ckAt true s mo (initC s) 0 p n) i (mo n)).en⟩ := by
  have hn := (List.getElem?_eq_some_iff.1 h).1
  have e : p.getD n 0 = i := by rw [List.getD_eq_getElem?_getD, h]; rfl
  rw [runS, List.getElem?_map, List.getElem?_range hn, Option.map_some]
  simp only [e]

/-- What a slot of a run says. -/
structure RunAt (s : Sh) (p : List Nat) (n i : Nat) (x : Sl) : Prop where
  hi : i < s.tasks.length
  t : x.t = (i : Int)
  k : x.k = (((p.take n).count i : Nat) : Int)
  kl : (p.take n).count i < (s.tasks.getD i default).works.length
  b : x.b = (workAt s i ((p.take n).count i)).b
  bg : ∀ sd, pk sd x.bl x.bh = (stepC sd s (ckAt sd s (fun _ => 0) (initC s) 0 p n) i 0).bg
  en : ∀ sd, pk sd x.el x.eh = pk sd x.bl x.bh + sel sd (workAt s i ((p.take n).count i)).lo (workAt s i ((p.take n).count i)).hi
  b0 : ∀ sd, 0 ≤ pk sd x.bl x.bh ∧ pk sd x.bl x.bh ≤ 200 + n * 20

theorem run_facts (hv : Val s) (hp : PlanLe s p) {n i : Nat} (h : p[n]? = some i) : ∃ x, (runS s (fun _ => 0) p)[n]? = some x ∧ RunAt s p n i x := by
  have st := fun (sd : Bool) => step_ok (sd := sd) (more := fun _ => (0 : Int)) (M := 0) hv hp (by omega) (fun _ => ⟨Int.le_refl _, Int.le_refl _⟩) h (ck_ok (sd := sd) (more := fun _ => (0 : Int)) hv hp (by omega) (fun _ => ⟨Int.le_refl _, Int.le_refl _⟩) n (by have := (List.getElem?_eq_some_iff.1 h).1; omega)) n
  have f := st false
  have t := st true
  refine ⟨_, run_at _ h, f.1, rfl, by simp only; rw [f.2.1], f.2.2.1, ?_, ?_, ?_, ?_⟩
  · show (workAt s i _).b = _
    have := f.2.1
    simp only [stepC] at this ⊢
    rw [this]
  · intro sd; cases sd <;> rfl
  · intro sd
    cases sd
    · have := f.2.1
      simp only [pk, stepC] at this ⊢
      rw [this]; simp
    · have := t.2.1
      simp only [pk, stepC] at this ⊢
      rw [this]; simp
  · intro sd
    have e : (n : Int) * (20 + 0) = n * 20 := by simp
    cases sd
    · have := f.2.2.2.1; have := f.2.2.2.2.1; simp only [pk]; omega
    · have := t.2.2.2.1; have := t.2.2.2.2.1; simp only [pk]; omega

theorem clk_inv (hv : Val s) (hp : PlanLe s p) (sd : Bool) : ∀ n, n ≤ p.length →
    (∀ i, i < s.tasks.length → (ckAt sd s (fun _ => 0) (initC s) 0 p n).tk.getD i 0 = fo (fun o => decide (o.t = (i : Int))) (s.tasks.getD i default).ready (((runS s (fun _ => 0) p).map (sttOf sd)).take n)) ∧
    (∀ b : Nat, b < 3 → (ckAt sd s (fun _ => 0) (initC s) 0 p n).bn.getD b 0 = fo (fun o => decide (o.b = (b : Int))) 0 (((runS s (fun _ => 0) p).map (sttOf sd)).take n))
  | 0, _ => by
    constructor
    · intro i hi
      simp only [ckAt, initC, pad4, List.take_zero, fo, List.foldl_nil, List.getD_eq_getElem?_getD]
      rw [List.getElem?_append_left (by simpa using hi), List.getElem?_map, List.getElem?_eq_getElem hi]
      rfl
    · intro b hb
      match b, hb with
      | 0, _ => rfl
      | 1, _ => rfl
      | 2, _ => rfl
  | n + 1, hn => by
    obtain ⟨ih1, ih2⟩ := clk_inv hv hp sd n (by omega)
    have hpn : p[n]? = some p[n] := List.getElem?_eq_getElem (by omega)
    obtain ⟨x, hx, hr⟩ := run_facts hv hp hpn
    have hck := ck_ok (sd := sd) (more := fun _ => 0) (M := 0) hv hp (by omega) (fun _ => ⟨by omega, by omega⟩) n (by omega)
    have htk := hr.hi
    have hw := work_ok hv hr.hi hr.kl
    have hlen := hv.len
    have hb1 := hv.b1
    have hk : (ckAt sd s (fun _ => 0) (initC s) 0 p n).dn.getD p[n] 0 = (p.take n).count p[n] := hck.dc _ (by omega)
    have hbg := hr.bg sd
    have hen := hr.en sd
    have hsel : 0 ≤ sel sd (workAt s p[n] ((p.take n).count p[n])).lo (workAt s p[n] ((p.take n).count p[n])).hi := by cases sd <;> simp only [sel] <;> omega
    have hend : (stepC sd s (ckAt sd s (fun _ => 0) (initC s) 0 p n) p[n] 0).en = pk sd x.el x.eh := by
      rw [hen, hbg]; simp only [stepC, hk]; simp
    have hbb : (stepC sd s (ckAt sd s (fun _ => 0) (initC s) 0 p n) p[n] 0).b = x.b := by
      rw [hr.b]; simp only [stepC, hk]
    have hge : (ckAt sd s (fun _ => 0) (initC s) 0 p n).tk.getD p[n] 0 ≤ pk sd x.bl x.bh ∧ (ckAt sd s (fun _ => 0) (initC s) 0 p n).bn.getD x.b.toNat 0 ≤ pk sd x.bl x.bh := by
      rw [hbg, ← hbb]; simp only [stepC]; omega
    have htake : ((runS s (fun _ => 0) p).map (sttOf sd)).take (n + 1) = ((runS s (fun _ => 0) p).map (sttOf sd)).take n ++ [sttOf sd x] := by
      rw [List.take_add_one, List.getElem?_map, hx]; rfl
    rw [ckAt_succ sd s _ p _ _ _ _ hpn, htake]
    constructor
    · intro i hi
      rw [fo_snoc]
      simp only [nextC, Nat.zero_add]
      rw [getD_set _ _ _ _ _ (by rw [hck.tk]; omega), hend]
      by_cases e : i = p[n]
      · subst e
        rw [if_pos rfl, if_pos (by simp [sttOf, hr.t])]
        rw [← ih1 _ hi]
        simp only [sttOf]; omega
      · rw [if_neg e, if_neg (by simp only [sttOf, hr.t]; simp; omega), ih1 _ hi]
    · intro b hb
      have h0 : 0 ≤ x.b ∧ x.b < 3 := by rw [hr.b]; omega
      rw [fo_snoc]
      simp only [nextC, Nat.zero_add]
      rw [getD_set _ _ _ _ _ (by rw [hck.bn, hbb]; omega), hend, hbb]
      by_cases e : b = x.b.toNat
      · subst e
        rw [if_pos rfl, if_pos (show decide ((sttOf sd x).b = ((x.b.toNat : Nat) : Int)) = true from decide_eq_true (show x.b = _ by omega))]
        rw [← ih2 _ hb]
        simp only [sttOf]; omega
      · rw [if_neg e, if_neg (show ¬ decide ((sttOf sd x).b = (b : Int)) = true from fun h => e (by have h : x.b = (b : Int) := of_decide_eq_true h; omega)), ih2 _ hb]

/-- When a work begins: what the statement reckons. -/
theorem bg_fo (hv : Val s) (hp : PlanLe s p) (sd : Bool) {n i : Nat} (h : p[n]? = some i) {x : Sl} (hx : (runS s (fun _ => 0) p)[n]? = some x) :
    pk sd x.bl x.bh = fo (fun o => decide (o.t = (i : Int)) || decide (o.b = x.b)) (s.tasks.getD i default).ready (((runS s (fun _ => 0) p).map (sttOf sd)).take n) := by
  obtain ⟨y, hy, hr⟩ := run_facts hv hp h
  rw [hx] at hy; cases hy
  have hn := (List.getElem?_eq_some_iff.1 h).1
  obtain ⟨c1, c2⟩ := clk_inv hv hp sd n (by omega)
  have hck := ck_ok (sd := sd) (more := fun _ => 0) (M := 0) hv hp (by omega) (fun _ => ⟨by omega, by omega⟩) n (by omega)
  have hw := work_ok hv hr.hi hr.kl
  have hb1 := hv.b1
  have hlen := hv.len
  have htk := hr.hi
  have hk : (ckAt sd s (fun _ => 0) (initC s) 0 p n).dn.getD i 0 = (p.take n).count i := hck.dc _ (by omega)
  have hrd := (hv.rd _ (getD_mem (d := default) hr.hi)).1
  rw [hr.bg sd]
  simp only [stepC, hk, ← hr.b]
  have e := c2 x.b.toNat (by rw [hr.b]; omega)
  have e2 : ((x.b.toNat : Nat) : Int) = x.b := by rw [hr.b]; omega
  rw [c1 i hr.hi, e, e2, ← fo_or, Int.max_eq_left hrd]
end
end Go.Proofs.YtmloogdalecilaaDoor

/-! E1 -/
namespace Go.Proofs.YtmloogdalecilaaDoor
open Go Go.Abs Go.Proofs

theorem take_step {α : Type} {a b : List α} {k : Nat} {x y : α} (ha : a[k]? = some x) (hb : b[k]? = some y) (h : a.take k = b.take k) : (a.take (k + 1) = b.take (k + 1)) ↔ x = y := by
  rw [List.take_add_one, List.take_add_one, ha, hb, h]; simp

theorem ne_of_at {α : Type} {a b : List α} {k : Nat} {x y : α} (ha : a[k]? = some x) (hb : b[k]? = some y) (h : x ≠ y) : a ≠ b := fun e => by
  subst e; rw [ha] at hb; exact h (Option.some.inj hb)

theorem xeqb {A : Ar} (hA : A = ar) (x y : Int) : A.cmp .eql x y = decide (x = y) := by subst hA; rfl

set_option maxRecDepth 20000 in
set_option maxHeartbeats 2000000 in
/-- musettekit.SameInts. -/
theorem kSameInts (a b : List Int) (LA LB : List D) (hLA : LA = a.map I) (hLB : LB = b.map I) (hl : a.length ≤ 1152921504606846976) (r : Bool) (hr : r = decide (a = b)) (Q) (hq : Q (RA.ret (.v (.bool r))) []) :
    CallA Tryd.prog 42 [.sl 1 LA, .sl 1 LB] [] Q := by
  obtain ⟨A, hA⟩ : ∃ A, A = ar := ⟨_, rfl⟩
  have hAl : LA.length = a.length := by rw [hLA]; simp
  have hBl : LB.length = b.length := by rw [hLB]; simp
  obtain ⟨s0, hs0⟩ : ∃ s0, s0 = A.cmp .eql (A.oi (A.len LA)) (A.oi (A.len LB)) := ⟨_, rfl⟩
  have hs1 : s0 = decide (a.length = b.length) := by
    rw [hs0, yoiL hA hAl, yoiL hA hBl, xeqb hA]
    by_cases h : a.length = b.length
    · rw [decide_eq_true h, decide_eq_true (by omega)]
    · rw [decide_eq_false h, decide_eq_false (by omega)]
  refine callA_start tokT hA Tryd.func42 rfl rfl rfl rfl rfl fun S hS => ?_
  cbv
  refine at_code hS ?_
  refine wpa_loopG (α := Int × Nat × Bool) (fun q => { env := [(0, .sl 1 LA), (1, .sl 1 LB), (5, .v (.bool q.2.2)), (6, I q.1)], H := [], nt := 31, dfs := [] })
    (fun q => a.length + 1 - q.2.1) (fun q => IsI q.1 q.2.1 ∧ q.2.1 ≤ a.length ∧ (q.2.2 = true → a.length = b.length ∧ a.take q.2.1 = b.take q.2.1) ∧ (q.2.2 = false → a ≠ b)) (0, 0, A.cmp .eql (A.oi (A.len LA)) (A.oi (A.len LB))) ⟨⟨rfl⟩, Nat.zero_le _, ?_, ?_⟩ ?_ ?_
  · exact fun h => ⟨of_decide_eq_true (hs1.symm.trans (hs0.trans h)), rfl⟩
  · exact fun h e => of_decide_eq_false (hs1.symm.trans (hs0.trans h)) (by rw [e])
  · exact gs_to [] ⟨by decide, pre0, trivial, ⟨rfl, rfl, rfl, rfl, trivial⟩, rfl, rfl⟩
  rintro ⟨i, k, sm⟩ ⟨u1, u2, u3, u4⟩
  dsimp only at u1 u2 u3 u4
  cases sm
  · have hr0 : r = false := by rw [hr]; exact decide_eq_false (u4 rfl)
    rw [hr0] at hq
    refine wp_go tokT hA hS ?_
    cbv
    refine gs_done ?_
    cbv
    exact gh_done hq
  · obtain ⟨e1, e2⟩ := u3 rfl
    have hend : a.length ≤ k → r = true := fun h => by
      rw [hr]; refine decide_eq_true ?_
      rw [List.take_of_length_le h, List.take_of_length_le (by omega)] at e2; exact e2
    have hget : k < a.length → ∃ x y, a[k]? = some x ∧ b[k]? = some y := fun h => ⟨_, _, List.getElem?_eq_getElem h, List.getElem?_eq_getElem (by omega)⟩
    have hlt : k < b.length → k < a.length := fun h => by omega
    have hgt : k < a.length → k < b.length := fun h => by omega
    have hms : k < a.length → a.length + 1 - (k + 1) < a.length + 1 - k := fun h => by omega
    refine wp_go tokT hA hS ?_
    cbv
    split
    · rename_i c
      have hk := yltL hA hAl u1 c
      obtain ⟨x, y, hx, hy⟩ := hget hk
      have hLx : LA[k]? = some (I x) := by rw [hLA]; simp [hx]
      have hLy : LB[k]? = some (I y) := by rw [hLB]; simp [hy]
      have hn1 : A.cmp .eql x y = true → a.length = b.length ∧ a.take (k + 1) = b.take (k + 1) := fun h => ⟨e1, (take_step hx hy e2).2 (xeq hA h)⟩
      have hn2 : A.cmp .eql x y = false → a ≠ b := fun h => ne_of_at hx hy (xneq hA h)
      cbv
      refine draw_go tokT hA hS [0, 1, 2, 3, 4, 5, 6, 7, 8, 9] rfl rfl fun Dk hD => ?_
      cbv
      refine ⟨yinbL hA hAl u1 hk, ⟨_, yget hA u1 hLx, ?_⟩⟩
      cbv
      refine ⟨yinbL hA hBl u1 (hgt hk), ⟨_, yget hA u1 hLy, ?_⟩⟩
      cbv
      refine ⟨yfit1 hA u1 (by omega), ?_⟩
      refine gs_loop (A.add i 1, k + 1, A.cmp .eql x y) [] ⟨ysucc hA u1, hk, hn1, hn2⟩ (hms hk) ?_
      exact ⟨by decide, pre0, trivial, ⟨rfl, rfl, rfl, rfl, trivial⟩, rfl, rfl⟩
    · rename_i c
      have hk := ynltL hA hAl u1 c
      have hr1 := hend hk
      rw [hr1] at hq
      cbv
      refine gs_done ?_
      cbv
      exact gh_done hq

theorem xleq {A : Ar} (hA : A = ar) {x y : List Int} (h : A.leq x y = true) : x = y := by subst hA; simpa [ar] using h
theorem xnleq {A : Ar} (hA : A = ar) {x y : List Int} (h : A.leq x y = false) : x ≠ y := by subst hA; simpa [ar] using h

def rngD (x : Int × Int) : D := .agg [I x.1, I x.2]

set_option maxRecDepth 20000 in
set_option maxHeartbeats 2000000 in
/-- musettekit.SameRanges. -/
theorem kSameRanges (a b : List (Int × Int)) (LA LB : List D) (hLA : LA = a.map rngD) (hLB : LB = b.map rngD) (hl : a.length ≤ 1152921504606846976) (r : Bool) (hr : r = decide (a = b)) (Q) (hq : Q (RA.ret (.v (.bool r))) []) :
    CallA Tryd.prog 54 [.sl 2 LA, .sl 2 LB] [] Q := by
  obtain ⟨A, hA⟩ : ∃ A, A = ar := ⟨_, rfl⟩
  have hAl : LA.length = a.length := by rw [hLA]; simp
  have hBl : LB.length = b.length := by rw [hLB]; simp
  obtain ⟨s0, hs0⟩ : ∃ s0, s0 = A.cmp .eql (A.oi (A.len LA)) (A.oi (A.len LB)) := ⟨_, rfl⟩
  have hs1 : s0 = decide (a.length = b.length) := by
    rw [hs0, yoiL hA hAl, yoiL hA hBl, xeqb hA]
    by_cases h : a.length = b.length
    · rw [decide_eq_true h, decide_eq_true (by omega)]
    · rw [decide_eq_false h, decide_eq_false (by omega)]
  refine callA_start tokT hA Tryd.func54 rfl rfl rfl rfl rfl fun S hS => ?_
  cbv
  refine at_code hS ?_
  refine wpa_loopG (α := Int × Nat × Bool) (fun q => { env := [(0, .sl 2 LA), (1, .sl 2 LB), (5, .v (.bool q.2.2)), (6, I q.1)], H := [], nt := 31, dfs := [] })
    (fun q => a.length + 1 - q.2.1) (fun q => IsI q.1 q.2.1 ∧ q.2.1 ≤ a.length ∧ (q.2.2 = true → a.length = b.length ∧ a.take q.2.1 = b.take q.2.1) ∧ (q.2.2 = false → a ≠ b)) (0, 0, A.cmp .eql (A.oi (A.len LA)) (A.oi (A.len LB))) ⟨⟨rfl⟩, Nat.zero_le _, ?_, ?_⟩ ?_ ?_
  · exact fun h => ⟨of_decide_eq_true (hs1.symm.trans (hs0.trans h)), rfl⟩
  · exact fun h e => of_decide_eq_false (hs1.symm.trans (hs0.trans h)) (by rw [e])
  · exact gs_to [] ⟨by decide, pre0, trivial, ⟨rfl, rfl, rfl, rfl, trivial⟩, rfl, rfl⟩
  rintro ⟨i, k, sm⟩ ⟨u1, u2, u3, u4⟩
  dsimp only at u1 u2 u3 u4
  cases sm
  · have hr0 : r = false := by rw [hr]; exact decide_eq_false (u4 rfl)
    rw [hr0] at hq
    refine wp_go tokT hA hS ?_
    cbv
    refine gs_done ?_
    cbv
    exact gh_done hq
  · obtain ⟨e1, e2⟩ := u3 rfl
    have hend : a.length ≤ k → r = true := fun h => by
      rw [hr]; refine decide_eq_true ?_
      rw [List.take_of_length_le h, List.take_of_length_le (by omega)] at e2; exact e2
    have hget : k < a.length → ∃ x1 x2 y1 y2, a[k]? = some (x1, x2) ∧ b[k]? = some (y1, y2) := fun h => ⟨_, _, _, _, List.getElem?_eq_getElem h, List.getElem?_eq_getElem (by omega)⟩
    have hgt : k < a.length → k < b.length := fun h => by omega
    have hms : k < a.length → a.length + 1 - (k + 1) < a.length + 1 - k := fun h => by omega
    refine wp_go tokT hA hS ?_
    cbv
    split
    · rename_i c
      have hk := yltL hA hAl u1 c
      obtain ⟨x1, x2, y1, y2, hx, hy⟩ := hget hk
      have hLx : LA[k]? = some (.agg [I x1, I x2]) := by rw [hLA]; simp [hx, rngD]
      have hLy : LB[k]? = some (.agg [I y1, I y2]) := by rw [hLB]; simp [hy, rngD]
      have hn1 : A.leq [x1, x2] [y1, y2] = true → a.length = b.length ∧ a.take (k + 1) = b.take (k + 1) := fun h => ⟨e1, (take_step hx hy e2).2 (by have := xleq hA h; simp only [List.cons.injEq, and_true] at this; rw [this.1, this.2])⟩
      have hn2 : A.leq [x1, x2] [y1, y2] = false → a ≠ b := fun h => ne_of_at hx hy (fun e => by cases e; exact xnleq hA h rfl)
      cbv
      refine draw_go tokT hA hS [0, 1, 2, 3, 4, 5, 6, 7, 8, 9] rfl rfl fun Dk hD => ?_
      cbv
      refine ⟨yinbL hA hAl u1 hk, ⟨_, yget hA u1 hLx, ?_⟩⟩
      cbv
      refine ⟨yinbL hA hBl u1 (hgt hk), ⟨_, yget hA u1 hLy, ?_⟩⟩
      cbv
      refine ⟨[x1, x2], [y1, y2], rfl, rfl, rfl, rfl, ?_⟩
      cbv
      refine ⟨yfit1 hA u1 (by omega), ?_⟩
      refine gs_loop (A.add i 1, k + 1, A.leq [x1, x2] [y1, y2]) [] ⟨ysucc hA u1, hk, hn1, hn2⟩ (hms hk) ?_
      exact ⟨by decide, pre0, trivial, ⟨rfl, rfl, rfl, rfl, trivial⟩, rfl, rfl⟩
    · rename_i c
      have hk := ynltL hA hAl u1 c
      have hr1 := hend hk
      rw [hr1] at hq
      cbv
      refine gs_done ?_
      cbv
      exact gh_done hq
end Go.Proofs.YtmloogdalecilaaDoor

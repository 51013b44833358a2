/- Part BatK of the proofs about the benches of the accordion maker: see the last text of the claim for what is proved. -/
import Derived.Test.YtecfpfhkicapeaaBatJ
import Derived.Test.YtecfpfhkicapeaaBatD
import Derived.Test.YtecfpfhkicapeaaSaysB
import Derived.Test.YtecfpfhkicapeaaMachF
set_option linter.unusedVariables false
set_option linter.unusedSimpArgs false
set_option linter.unnecessarySimpa false
set_option linter.constructorNameAsVariable false

namespace Go.Proofs.Ytecfpfhkicapeaa
open Go Go.Abs Go.Proofs Go.Batch
set_option maxRecDepth 20000 in
set_option maxHeartbeats 2000000 in
theorem rHas (l : List Nat) (hl : l.length ≤ 1000000) (L : List D) (hL : L = natD l) (v : Int) (kv : Nat) (hv : IsI v kv) (b : Bool) (hb : b = decide (kv ∈ l)) (Q) (hq : Q (RA.ret (.v (.bool b))) []) : CallA Try.prog 95 [.sl 1 L, I v] [] Q := by
  obtain ⟨A, hA⟩ : ∃ A, A = ar := ⟨_, rfl⟩
  have hLl : L.length = l.length := by rw [hL]; simp [natD]
  refine callA_start tokT hA Try.func95 rfl rfl rfl rfl rfl fun S hS => ?_
  cbv
  refine at_code hS ?_
  refine wpa_loopG (α := Int × Nat) (fun q => { env := [(0, .sl 1 L), (1, I v), (5, I q.1)], H := [], nt := 18, dfs := [] })
    (fun q => l.length - q.2) (fun q => q.2 ≤ l.length ∧ IsI q.1 q.2 ∧ ∀ x ∈ l.take q.2, x ≠ kv) (0, 0) ⟨Nat.zero_le _, ⟨rfl⟩, fun x h => by simp at h⟩ ?_ ?_
  · exact gs_to [] ⟨by decide, pre0, trivial, ⟨rfl, rfl, rfl, trivial⟩, rfl, rfl⟩
  rintro ⟨i, k⟩ ⟨u1, u2, u3⟩
  dsimp only at u1 u2 u3
  have hyes : A.cmp .lss i (A.oi (A.len L)) = true → k < l.length := fun c => yltL hA hLl u2 c
  have hno : A.cmp .lss i (A.oi (A.len L)) = false → k = l.length := fun c => by have := ynltL hA hLl u2 c; omega
  refine wp_go tokT hA hS ?_
  cbv
  refine bm (fun c => ?_) (fun c => ?_)
  · have hk := hyes c
    obtain ⟨e, he⟩ : ∃ e, l[k]? = some e := ⟨_, List.getElem?_eq_getElem hk⟩
    obtain ⟨eI, heI⟩ : ∃ z : Int, z = (e : Nat) := ⟨_, rfl⟩
    have gL := yget hA u2 (show L[k]? = some (I eI) by rw [hL, heI]; simp [natD, he])
    have iL := yinbL hA hLl u2 hk
    have hf1 := yfit1 hA u2 (by omega)
    have hu2 := ysucc hA u2
    have hms : l.length - (k + 1) < l.length - k := by omega
    have hve := hv.eq
    have hit : A.cmp .eql eI v = true → Q (RA.ret (.v (.bool true))) [] := fun h => by
      have : e = kv := by have := xeq hA h; omega
      rw [hb, decide_eq_true (this ▸ List.mem_of_getElem? he)] at hq; exact hq
    have hms2 : A.cmp .eql eI v = false → ∀ x ∈ l.take (k + 1), x ≠ kv := fun h x hx => by
      rw [List.take_add_one, he] at hx
      rcases List.mem_append.1 hx with hx | hx
      · exact u3 x hx
      · simp at hx; subst hx; have := xneq hA h; omega
    cbv
    refine ⟨iL, ⟨_, gL, ?_⟩⟩
    cbv
    refine bm (fun c1 => ?_) (fun c1 => ?_)
    · have hz := hit c1
      cbv
      refine gs_done ?_
      cbv
      exact gh_view [] (by decide) pre0 (H' := []) (d' := .v (.bool true)) trivial rfl (gh_done hz)
    · have hz := hms2 c1
      cbv
      refine ⟨hf1, ?_⟩
      refine gs_loop (A.add i 1, k + 1) [] ⟨hk, hu2, hz⟩ hms ?_
      exact ⟨by decide, pre0, trivial, ⟨rfl, rfl, rfl, trivial⟩, rfl, rfl⟩
  · have hk := hno c
    have hz : Q (RA.ret (.v (.bool false))) [] := by
      rw [hb, decide_eq_false (fun h => u3 kv (by rw [hk, List.take_length]; exact h) rfl)] at hq; exact hq
    cbv
    refine gs_done ?_
    cbv
    exact gh_view [] (by decide) pre0 (H' := []) (d' := .v (.bool false)) trivial rfl (gh_done hz)
set_option maxRecDepth 20000 in
set_option maxHeartbeats 4000000 in
theorem rCounts (j : Jn) (hm : j.moves.length ≤ 1000) (FL ML : List D) (hM : ML = j.moves.map mvD) (Q) (hq : ∀ CL, CL = natD (countsJ j) → Q (RA.ret (.sl 1 CL)) []) : CallA Try.prog 33 [.agg [I j.ins, .sl 1 FL, .sl 5 ML]] [] Q := by
  obtain ⟨A, hA⟩ : ∃ A, A = ar := ⟨_, rfl⟩
  have hMl : ML.length = j.moves.length := by rw [hM]; simp
  refine callA_start tokT hA Try.func33 rfl rfl rfl rfl rfl fun S hS => ?_
  cbv
  refine at_code hS ?_
  refine wpa_loopG (α := Int × Nat × Nat × List D) (fun q => { env := [(1, .b 0 0), (3, .o 1 1 q.2.2.1), (4, I q.1)], H := [.box (.agg [I j.ins, .sl 1 FL, .sl 5 ML]), .els 1 q.2.2.2], nt := 24, dfs := [] })
    (fun q => j.moves.length - q.2.1) (fun q => q.2.1 ≤ j.moves.length ∧ IsI q.1 q.2.1 ∧ q.2.2.1 = (countsL (j.moves.take q.2.1) 0).length ∧ q.2.2.2 = natD (countsL (j.moves.take q.2.1) 0)) (0, 0, 0, []) ⟨Nat.zero_le _, ⟨rfl⟩, rfl, rfl⟩ ?_ ?_
  · refine gs_virt 3 1 rfl ?_
    exact gs_to [0, 1] ⟨by decide, pre0, ⟨rfl, rfl, trivial⟩, ⟨rfl, rfl, rfl, trivial⟩, rfl, rfl⟩
  rintro ⟨i, k, n0, R⟩ ⟨u1, u2, u3, u4⟩
  dsimp only at u1 u2 u3 u4
  have hRl : R.length = n0 := by rw [u4, u3]; simp [natD]
  have hn0 : n0 ≤ 1000000 := by
    rw [u3]
    have := countsL_len (j.moves.take k) 0
    rw [List.length_take] at this; omega
  have hyes : A.cmp .lss i (A.oi (A.len ML)) = true → k < j.moves.length := fun c => yltL hA hMl u2 c
  have hno : A.cmp .lss i (A.oi (A.len ML)) = false → k = j.moves.length := fun c => by have := ynltL hA hMl u2 c; omega
  have hie := u2.eq
  refine wp_go tokT hA hS ?_
  cbv
  refine bm (fun c => ?_) (fun c => ?_)
  · have hk := hyes c
    obtain ⟨m, hmk⟩ : ∃ m, j.moves[k]? = some m := ⟨_, List.getElem?_eq_getElem hk⟩
    have hMk : ML[k]? = some (.agg [I m.kind, I m.bin, I m.inst, I m.lo, I m.hi]) := by rw [hM]; simp [hmk, mvD]
    have hsn := countsL_snoc hmk
    have hin := yinbL hA hMl u2 hk
    have hg := yget hA u2 hMk
    have hf1 := yfit1 hA u2 (by omega)
    have hu2 := ysucc hA u2
    have hms : j.moves.length - (k + 1) < j.moves.length - k := by omega
    have hn1 : m.kind = 3 → A.addN n0 1 = (countsL (j.moves.take (k + 1)) 0).length := fun h => by rw [hsn, if_pos h, xaddN hA, u3]; simp
    have hr1 : m.kind = 3 → A.app R [I i] = natD (countsL (j.moves.take (k + 1)) 0) := fun h => by rw [hsn, if_pos h, xapp hA, u4, hie]; simp [natD]
    have hn2 : m.kind ≠ 3 → n0 = (countsL (j.moves.take (k + 1)) 0).length := fun h => by rw [hsn, if_neg h, u3]
    have hr2 : m.kind ≠ 3 → R = natD (countsL (j.moves.take (k + 1)) 0) := fun h => by rw [hsn, if_neg h, u4]
    cbv
    refine ⟨hin, ⟨_, hg, ?_⟩⟩
    cbv
    refine bm (fun c2 => ?_) (fun c2 => ?_)
    · have h1 := hn1 (xeq hA c2)
      have h2 := hr1 (xeq hA c2)
      cbv
      refine ⟨yeqLen hA hRl, yeqLen hA rfl, yroom1 hA hn0 (by decide), hf1, ?_⟩
      refine gs_loop (A.add i 1, k + 1, A.addN n0 1, A.app R [I i]) [0, 3] ⟨hk, hu2, h1, h2⟩ hms ?_
      exact ⟨by decide, pre0, ⟨rfl, rfl, trivial⟩, ⟨rfl, rfl, rfl, trivial⟩, rfl, rfl⟩
    · have h1 := hn2 (xneq hA c2)
      have h2 := hr2 (xneq hA c2)
      cbv
      refine ⟨hf1, ?_⟩
      refine gs_loop (A.add i 1, k + 1, n0, R) [0, 1] ⟨hk, hu2, h1, h2⟩ hms ?_
      exact ⟨by decide, pre0, ⟨rfl, rfl, trivial⟩, ⟨rfl, rfl, rfl, trivial⟩, rfl, rfl⟩
  · have hk := hno c
    have hRE : R = natD (countsJ j) := by rw [u4, hk, List.take_length]; rfl
    have hz := hq R hRE
    cbv
    refine gs_done ?_
    cbv
    refine gh_frz [1] ?_
    cbv
    exact ⟨by cases R <;> exact hRl.symm, gh_view [] (by decide) pre0 (H' := []) (d' := .sl 1 R) trivial rfl (gh_done hz)⟩
set_option maxRecDepth 20000 in
set_option maxHeartbeats 4000000 in
theorem rWithout (j : Jn) (hm : j.moves.length ≤ 1000) (l : List Nat) (hl : l.length ≤ 1000000) (FL ML L : List D) (hM : ML = j.moves.map mvD) (hL : L = natD l) (Q) (hq : ∀ ML', ML' = (withoutJ j l).moves.map mvD → Q (RA.ret (.agg [I j.ins, .sl 1 FL, .sl 5 ML'])) []) :
    CallA Try.prog 36 [.agg [I j.ins, .sl 1 FL, .sl 5 ML], .sl 1 L] [] Q := by
  obtain ⟨A, hA⟩ : ∃ A, A = ar := ⟨_, rfl⟩
  have hMl : ML.length = j.moves.length := by rw [hM]; simp
  have hb1 : A.bnot true = false := by subst hA; rfl
  have hb0 : A.bnot false = true := by subst hA; rfl
  refine callA_start tokT hA Try.func36 rfl rfl rfl rfl rfl fun S hS => ?_
  cbv
  refine at_code hS ?_
  refine wpa_loopG (α := Int × Nat × Nat × List D) (fun q => { env := [(1, .sl 1 L), (2, .b 0 0), (4, .b 1 0), (5, .sl 5 ML), (6, I q.1)], H := [.box (.agg [I j.ins, .sl 1 FL, .o 2 5 q.2.2.1]), .box (.agg [I 0, .v (.slice none 0 0), .v (.slice none 0 0)]), .els 5 q.2.2.2], nt := 30, dfs := [] })
    (fun q => j.moves.length - q.2.1) (fun q => q.2.1 ≤ j.moves.length ∧ IsI q.1 q.2.1 ∧ q.2.2.1 = (withoutL l (j.moves.take q.2.1) 0).length ∧ q.2.2.2 = (withoutL l (j.moves.take q.2.1) 0).map mvD) (0, 0, 0, []) ⟨Nat.zero_le _, ⟨rfl⟩, rfl, rfl⟩ ?_ ?_
  · refine gs_virtB 0 2 5 (.agg [I j.ins, .sl 1 FL, .o 2 5 0]) rfl rfl rfl ?_
    exact gs_to [0, 1, 2] ⟨by decide, pre0, ⟨rfl, rfl, rfl, trivial⟩, ⟨rfl, rfl, rfl, rfl, rfl, trivial⟩, rfl, rfl⟩
  rintro ⟨i, k, n0, R⟩ ⟨u1, u2, u3, u4⟩
  dsimp only at u1 u2 u3 u4
  have hRl : R.length = n0 := by rw [u4, u3]; simp
  have hn0 : n0 ≤ 1000000 := by
    rw [u3]
    have := withoutL_len l (j.moves.take k) 0
    rw [List.length_take] at this; omega
  have hyes : A.cmp .lss i (A.oi (A.len ML)) = true → k < j.moves.length := fun c => yltL hA hMl u2 c
  have hno : A.cmp .lss i (A.oi (A.len ML)) = false → k = j.moves.length := fun c => by have := ynltL hA hMl u2 c; omega
  refine wp_go tokT hA hS ?_
  cbv
  refine bm (fun c => ?_) (fun c => ?_)
  · have hk := hyes c
    obtain ⟨m, hmk⟩ : ∃ m, j.moves[k]? = some m := ⟨_, List.getElem?_eq_getElem hk⟩
    have hMk : ML[k]? = some (.agg [I m.kind, I m.bin, I m.inst, I m.lo, I m.hi]) := by rw [hM]; simp [hmk, mvD]
    have hsn := withoutL_snoc l hmk
    have hin := yinbL hA hMl u2 hk
    have hg := yget hA u2 hMk
    have hf1 := yfit1 hA u2 (by omega)
    have hu2 := ysucc hA u2
    have hms : j.moves.length - (k + 1) < j.moves.length - k := by omega
    obtain ⟨b, hb⟩ : ∃ b, b = decide (k ∈ l) := ⟨_, rfl⟩
    have hct := fun Q => rHas l hl L hL i k u2 b hb Q
    have hn1 : k ∉ l → A.addN n0 1 = (withoutL l (j.moves.take (k + 1)) 0).length := fun h => by rw [hsn, if_neg h, xaddN hA, u3]; simp
    have hr1 : k ∉ l → A.app R [.agg [I m.kind, I m.bin, I m.inst, I m.lo, I m.hi]] = (withoutL l (j.moves.take (k + 1)) 0).map mvD := fun h => by rw [hsn, if_neg h, xapp hA, u4]; simp [mvD]
    have hn2 : k ∈ l → n0 = (withoutL l (j.moves.take (k + 1)) 0).length := fun h => by rw [hsn, if_pos h, u3]
    have hr2 : k ∈ l → R = (withoutL l (j.moves.take (k + 1)) 0).map mvD := fun h => by rw [hsn, if_pos h, u4]
    cbv
    refine ops_call hS [.sl 1 L, I i] [] [] rfl rfl rfl rfl rfl rfl rfl rfl (by decide) trivial (hct _ ?_)
    refine ops_go tokT hA hS ?_
    cbv
    cases b with
    | false =>
      have hkn : k ∉ l := of_decide_eq_false hb.symm
      have h1 := hn1 hkn
      have h2 := hr1 hkn
      refine bm (fun _ => ?_) (fun c => Bool.noConfusion (hb0.symm.trans c))
      cbv
      refine draw_go tokT hA hS [0, 1, 2, 3, 4, 5, 6, 7, 8, 9] rfl rfl fun Dk hD => ?_
      cbv
      refine ⟨hin, ⟨_, hg, ?_⟩⟩
      cbv
      refine ⟨yeqLen hA hRl, yeqLen hA rfl, yroom1 hA hn0 (by decide), ⟨⟨_, hg, rfl⟩, trivial⟩, ?_⟩
      cbv
      refine ⟨hf1, ?_⟩
      refine gs_loop (A.add i 1, k + 1, A.addN n0 1, A.app R [.agg [I m.kind, I m.bin, I m.inst, I m.lo, I m.hi]]) [0, 1, 4] ⟨hk, hu2, h1, h2⟩ hms ?_
      exact ⟨by decide, pre0, ⟨rfl, rfl, rfl, trivial⟩, ⟨rfl, rfl, rfl, rfl, rfl, trivial⟩, rfl, rfl⟩
    | true =>
      have hkn : k ∈ l := of_decide_eq_true hb.symm
      have h1 := hn2 hkn
      have h2 := hr2 hkn
      refine bm (fun c => Bool.noConfusion (hb1.symm.trans c)) (fun _ => ?_)
      cbv
      refine ⟨hf1, ?_⟩
      refine gs_loop (A.add i 1, k + 1, n0, R) [0, 1, 2] ⟨hk, hu2, h1, h2⟩ hms ?_
      exact ⟨by decide, pre0, ⟨rfl, rfl, rfl, trivial⟩, ⟨rfl, rfl, rfl, rfl, rfl, trivial⟩, rfl, rfl⟩
  · have hk := hno c
    have hRE : R = (withoutJ j l).moves.map mvD := by rw [u4, hk, List.take_length]; rfl
    have hz := hq R hRE
    cbv
    refine gs_done ?_
    cbv
    refine gh_frz [2] ?_
    cbv
    refine ⟨by cases R <;> exact hRl.symm, by cases R <;> exact hRl.symm, by cases R <;> exact hRl.symm, ?_⟩
    exact gh_view [] (by decide) pre0 (H' := []) (d' := .agg [I j.ins, .sl 1 FL, .sl 5 R]) trivial rfl (gh_done hz)
end Go.Proofs.Ytecfpfhkicapeaa

namespace Go.Batch
theorem choicesL_zero {α : Type} (l : List α) : choicesL l 0 = [[]] := by cases l <;> rfl
theorem choicesL_at {α : Type} {l : List α} {i : Nat} {x : α} (h : l[i]? = some x) (k : Nat) : choicesL (l.drop i) (k + 1) = (choicesL (l.drop (i + 1)) k).map (x :: ·) ++ choicesL (l.drop (i + 1)) (k + 1) := by
  obtain ⟨h1, h2⟩ := List.getElem?_eq_some_iff.1 h
  rw [List.drop_eq_getElem_cons h1, h2, choicesL]
theorem choicesL_end {α : Type} {l : List α} {i : Nat} (h : l.length ≤ i) (k : Nat) : choicesL (l.drop i) (k + 1) = [] := by
  rw [List.drop_eq_nil_of_le h]; rfl
end Go.Batch
namespace Go.Proofs.Ytecfpfhkicapeaa
open Go Go.Abs Go.Proofs Go.Batch
def chD (l : List (List Nat)) : List D := l.map fun p => .sl 1 (natD p)
theorem chD_len (l : List (List Nat)) : (chD l).length = l.length := by simp [chD]
theorem wk_nilrow : WkD (.sl 1 [.v (.slice none 0 0)]) (.sl 1 [.sl 1 []]) := ⟨fun F μ v h => by
  cases h with
  | cl _ _ h =>
    cases h with
    | sl _ _ b o cap val hc hz hf hv =>
      refine .cl _ _ (.sl 1 [.sl 1 []] b o cap val hc (fun i e he => ?_) (fun i e r c he hr => ?_) (fun i e r c he hr => ?_))
      · match i, he with
        | 0, he => simp at he; subst he; rfl
        | i + 1, he => simp at he
      · match i, he with
        | 0, he =>
          simp at he; subst he
          match r, hr with
          | 0, hr => exact hf 0 _ 0 _ rfl rfl
          | r + 1, hr => simp [D.cells] at hr
        | i + 1, he => simp at he
      · match i, he with
        | 0, he =>
          simp at he; subst he
          match r, hr with
          | 0, hr =>
            simp [D.cells] at hr; subst hr
            have := hv 0 _ 0 _ rfl rfl
            generalize val 0 0 = z at this
            cases this
            exact .slE _ _ _
          | r + 1, hr => simp [D.cells] at hr
        | i + 1, he => simp at he⟩
theorem ysubHi {A : Ar} (hA : A = ar) {l l' : List D} {i : Int} {t : Nat} (hi : IsI i t) (h : l.drop (t + 1) = l') : A.sub2 l (A.add i 1) (A.oi (A.len l)) = l' := by
  have e := hi.eq
  subst hA; subst h; subst e
  show (l.take (Int.toNat (l.length : Int))).drop (Int.toNat ((t : Int) + 1)) = l.drop (t + 1)
  rw [Int.toNat_natCast, List.take_length, show Int.toNat ((t : Int) + 1) = t + 1 by omega]
theorem ysubHiOK {A : Ar} (hA : A = ar) {l : List D} {i : Int} {t : Nat} (hi : IsI i t) (h : t < l.length) : A.sub2OK l (A.add i 1) (A.oi (A.len l)) := by
  have e := hi.eq
  subst hA; subst e
  show 0 ≤ ((t : Int) + 1) ∧ ((t : Int) + 1) ≤ (l.length : Int) ∧ (l.length : Int) ≤ (l.length : Int)
  omega
set_option maxRecDepth 20000 in
set_option maxHeartbeats 4000000 in
theorem rChoices : ∀ (k : Nat) (l : List Nat), l.length ≤ 10 → ∀ (LL : List D), LL = natD l → ∀ (many : Int), IsI many k → k ≤ 1000 → ∀ (Q : RA → List Blk → Prop), (∀ OL, OL = chD (choicesL l k) → Q (RA.ret (.sl 1 OL)) []) → CallA Try.prog 34 [.sl 1 LL, I many] [] Q := by
  obtain ⟨A, hA⟩ : ∃ A, A = ar := ⟨_, rfl⟩
  intro k
  induction k with
  | zero =>
    intro l hl LL hL many hm hk0 Q hq
    have hz := hq [.sl 1 []] (by rw [choicesL_zero]; rfl)
    have h0 : A.cmp .eql many 0 = true := by rw [hm.eq]; subst hA; rfl
    refine callA_start tokT hA Try.func34 rfl rfl rfl rfl rfl fun S hS => ?_
    cbv
    refine bmT h0 ?_
    cbv
    refine gh_frz [0] ?_
    cbv
    refine gh_weak wk_nilrow ?_
    exact gh_view [] (by decide) pre0 (H' := []) (d' := .sl 1 [.sl 1 []]) trivial rfl (gh_done hz)
  | succ k ih =>
    intro l hl LL hL many hm hk0 Q hq
    have hLl : LL.length = l.length := by rw [hL]; simp [natD]
    have h0 : A.cmp .eql many 0 = false := by rw [hm.eq]; subst hA; simp [ar, cmpI]; omega
    have hm1 : IsI (A.sub many 1) k := ⟨by rw [xsub hA, hm.eq]; omega⟩
    have hf0 : A.fits .i64 (A.sub many 1) := xfitE hA (xsub hA many 1) (by have := hm.eq; omega)
    have hbig : (choicesL l (k + 1)).length ≤ 1024 := Nat.le_trans (choicesL_len l (k + 1)) (Nat.le_trans (Nat.pow_le_pow_right (by decide) hl) (by decide))
    refine callA_start tokT hA Try.func34 rfl rfl rfl rfl rfl fun S hS => ?_
    cbv
    refine bmF h0 ?_
    cbv
    refine at_code hS ?_
    refine wpa_loopG (α := Int × Nat × List (List Nat) × Nat × List D) (fun q => { env := [(0, .sl 1 LL), (1, I many), (5, .o 0 1 q.2.2.2.1), (6, I q.1)], H := [.els 1 q.2.2.2.2], nt := 45, dfs := [] })
      (fun q => l.length - q.2.1) (fun q => q.2.1 ≤ l.length ∧ IsI q.1 q.2.1 ∧ choicesL l (k + 1) = q.2.2.1 ++ choicesL (l.drop q.2.1) (k + 1) ∧ q.2.2.2.1 = q.2.2.1.length ∧ q.2.2.2.2 = chD q.2.2.1) (0, 0, [], 0, []) ⟨Nat.zero_le _, ⟨rfl⟩, rfl, rfl, rfl⟩ ?_ ?_
    · refine gs_virt 5 1 rfl ?_
      exact gs_to [0] ⟨by decide, pre0, ⟨rfl, trivial⟩, ⟨rfl, rfl, rfl, rfl, trivial⟩, rfl, rfl⟩
    rintro ⟨i, t, done, n0, OL⟩ ⟨u1, u2, u3, u4, u5⟩
    dsimp only at u1 u2 u3 u4 u5
    have hOl : OL.length = n0 := by rw [u5, u4, chD_len]
    have hyes : A.cmp .lss i (A.oi (A.len LL)) = true → t < l.length := fun c => yltL hA hLl u2 c
    have hno : A.cmp .lss i (A.oi (A.len LL)) = false → t = l.length := fun c => by have := ynltL hA hLl u2 c; omega
    refine wp_go tokT hA hS ?_
    cbv
    refine bm (fun c => ?_) (fun c => ?_)
    · have ht := hyes c
      obtain ⟨x, hx⟩ : ∃ x, l[t]? = some x := ⟨_, List.getElem?_eq_getElem ht⟩
      obtain ⟨xI, hxI⟩ : ∃ z : Int, z = (x : Nat) := ⟨_, rfl⟩
      have gL := yget hA u2 (show LL[t]? = some (I xI) by rw [hL, hxI]; simp [natD, hx])
      have iL := yinbL hA hLl u2 ht
      have hf1 := yfit1 hA u2 (by omega)
      have hu2 := ysucc hA u2
      have hms : l.length - (t + 1) < l.length - t := by omega
      rw [choicesL_at hx] at u3
      have hsub : A.sub2 LL (A.add i 1) (A.oi (A.len LL)) = natD (l.drop (t + 1)) := ysubHi hA u2 (by rw [hL]; simp [natD])
      have hsok := ysubHiOK hA u2 (l := LL) (by omega)
      obtain ⟨rest, hrest⟩ : ∃ r, r = choicesL (l.drop (t + 1)) k := ⟨_, rfl⟩
      have hih := fun Q h => ih (l.drop (t + 1)) (by simp; omega) _ hsub _ hm1 (by omega) Q h
      rw [← hrest] at u3 hih
      have hln : done.length + rest.length ≤ 1024 := by rw [u3] at hbig; simp at hbig; omega
      cbv
      refine ⟨hf1, hsok, hf0, ?_⟩
      refine ops_call hS [.sl 1 (A.sub2 LL (A.add i 1) (A.oi (A.len LL))), I (A.sub many 1)] [] [] rfl rfl rfl rfl rfl rfl rfl rfl (by decide) trivial (hih _ fun RL hRL => ?_)
      have hRl : RL.length = rest.length := by rw [hRL, chD_len]
      refine ops_go tokT hA hS ?_
      cbv
      refine at_code hS ?_
      refine wpa_loopG (α := Int × Nat × Nat × List D) (fun q => { env := [(0, .sl 1 LL), (1, I many), (5, .o 0 1 q.2.2.1), (6, I i), (7, .sl 1 RL), (8, I q.1)], H := [.els 1 q.2.2.2], nt := 45, dfs := [] })
        (fun q => rest.length - q.2.1) (fun q => q.2.1 ≤ rest.length ∧ IsI q.1 q.2.1 ∧ q.2.2.1 = done.length + q.2.1 ∧ q.2.2.2 = chD (done ++ (rest.take q.2.1).map (x :: ·))) (0, 0, n0, OL) ⟨Nat.zero_le _, ⟨rfl⟩, u4, by simpa using u5⟩ ?_ ?_
      · exact gs_to [0] ⟨by decide, pre0, ⟨rfl, trivial⟩, ⟨rfl, rfl, rfl, rfl, rfl, rfl, trivial⟩, rfl, rfl⟩
      rintro ⟨ki, s, n, ML⟩ ⟨v1, v2, v3, v4⟩
      dsimp only at v1 v2 v3 v4
      have hMl : ML.length = n := by rw [v4, v3, chD_len]; simp; omega
      have hyes2 : A.cmp .lss ki (A.oi (A.len RL)) = true → s < rest.length := fun c => yltL hA hRl v2 c
      have hno2 : A.cmp .lss ki (A.oi (A.len RL)) = false → s = rest.length := fun c => by have := ynltL hA hRl v2 c; omega
      refine wp_go tokT hA hS ?_
      cbv
      refine bm (fun c2 => ?_) (fun c2 => ?_)
      · have hs := hyes2 c2
        obtain ⟨p, hp⟩ : ∃ p, rest[s]? = some p := ⟨_, List.getElem?_eq_getElem hs⟩
        obtain ⟨PL, hPL⟩ : ∃ PL, PL = natD p := ⟨_, rfl⟩
        have gR := yget hA v2 (show RL[s]? = some (.sl 1 PL) by rw [hRL, hPL]; simp [chD, hp])
        have iR := yinbL hA hRl v2 hs
        have hfk := yfit1 hA v2 (by omega)
        have hv2 := ysucc hA v2
        have hms2 : rest.length - (s + 1) < rest.length - s := by omega
        have hpl : p.length = k := (choicesL_mem _ _ p (by rw [← hrest]; exact List.mem_of_getElem? hp)).1
        have hPl : PL.length = k := by rw [hPL]; simp [natD, hpl]
        have hap : A.app [I xI] PL = natD (x :: p) := by rw [xapp hA, hPL, hxI]; rfl
        have hr1 : A.room (A.addN 1 (A.len PL)) 8 := by rw [xaddN hA, xlen hA hPl]; exact yroomN hA (by omega) (by decide)
        have hapl : (A.app [I xI] PL).length = A.addN 1 (A.len PL) := by rw [hap, xaddN hA, xlen hA hPl]; simp [natD, hpl]; omega
        have hnx : A.app ML [.sl 1 (A.app [I xI] PL)] = chD (done ++ (rest.take (s + 1)).map (x :: ·)) := by
          rw [xapp hA, hap, v4, List.take_add_one, hp]; simp [chD]
        have hn6 : n ≤ 1000000 := by omega
        have hE : A.eqN (A.addN 1 (A.len PL)) (A.len (A.app [I xI] PL)) := xeqN hA (by rw [xlen hA hapl])
        have hn1 : A.addN n 1 = done.length + (s + 1) := by rw [xaddN hA, v3]; omega
        cbv
        refine draw_goE tokT hA hS [11] [0, 1, 2, 3, 4, 5, 6, 7, 8, 9, 10, 11, 12, 13] rfl rfl fun Dk hD => ?_
        cbv
        refine ⟨iL, ⟨_, gL, ?_⟩⟩
        cbv
        refine ⟨iR, ⟨_, gR, ?_⟩⟩
        cbv
        refine ⟨yeqLen hA rfl, hr1, ⟨⟨_, gL, rfl⟩, trivial⟩, ?_⟩
        refine draw_allocF tokT hA hD [2] rfl rfl rfl rfl rfl rfl fun KG hC => ?_
        cbv
        refine ⟨hE, ?_⟩
        rw [hC]
        refine aftG_of hA tokT hD ?_ ?_
        · cbv
          repeat' (first | exact trivial | exact rfl | exact ⟨_, gL, rfl⟩ | exact ⟨_, gR, rfl⟩ | refine ⟨?_, ?_⟩)
        cbv
        refine ⟨yeqLen hA hMl, yeqLen hA rfl, yroom1 hA hn6 (by decide), ⟨⟨_, gL, rfl⟩, trivial⟩, ?_⟩
        refine ⟨hfk, ?_⟩
        refine gs_loop (A.add ki 1, s + 1, A.addN n 1, A.app ML [.sl 1 (A.app [I xI] PL)]) [4] ⟨hs, hv2, hn1, hnx⟩ hms2 ?_
        exact ⟨by decide, pre0, ⟨rfl, trivial⟩, ⟨rfl, rfl, rfl, rfl, rfl, rfl, trivial⟩, rfl, rfl⟩
      · have hs := hno2 c2
        have h3 : choicesL l (k + 1) = (done ++ rest.map (x :: ·)) ++ choicesL (l.drop (t + 1)) (k + 1) := by rw [u3, List.append_assoc]
        have h4 : n = (done ++ rest.map (x :: ·)).length := by rw [v3, hs]; simp
        have h5 : ML = chD (done ++ rest.map (x :: ·)) := by rw [v4, hs, List.take_length]
        cbv
        refine gs_done ?_
        cbv
        refine ⟨hf1, ?_⟩
        refine gs_loop (A.add i 1, t + 1, done ++ rest.map (x :: ·), n, ML) [0] ⟨ht, hu2, h3, h4, h5⟩ hms ?_
        exact ⟨by decide, pre0, ⟨rfl, trivial⟩, ⟨rfl, rfl, rfl, rfl, trivial⟩, rfl, rfl⟩
    · have ht := hno c
      have hz := hq OL (by rw [u5, u3, choicesL_end (by omega), List.append_nil])
      cbv
      refine gs_done ?_
      cbv
      refine gh_frz [0] ?_
      cbv
      exact ⟨by cases OL <;> exact hOl.symm, gh_view [] (by decide) pre0 (H' := []) (d' := .sl 1 OL) trivial rfl (gh_done hz)⟩
end Go.Proofs.Ytecfpfhkicapeaa

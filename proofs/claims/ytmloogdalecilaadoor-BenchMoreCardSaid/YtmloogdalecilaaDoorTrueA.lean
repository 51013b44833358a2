/- Part TrueA of the proofs about the benches of the accordion maker: see the last text of the claim for what is proved. -/
import Derived.Test.YtmloogdalecilaaDoorBenchE
set_option linter.unusedVariables false
set_option linter.unusedSimpArgs false
set_option linter.unnecessarySimpa false
set_option linter.constructorNameAsVariable false

/-! D34 -/
namespace Go.Proofs.YtmloogdalecilaaDoor
open Go Go.Abs Go.Proofs

def lateV (e : Int × Int) (due : Int) : Int := if due < e.1 then 1 else if e.2 ≤ due then 2 else 3
def lateS (s : Sh) (p : List Nat) : List Int := (List.range s.tasks.length).map fun i => lateV ((endsS s p).getD i (0, 0)) (s.tasks.getD i default).due

set_option maxRecDepth 20000 in
set_option maxHeartbeats 2000000 in
/-- bench.Late, of a whole plan. -/
theorem bLatePlan (s : Sh) (hs : ShopOk s) (p : List Nat) (hp : PlanOk s p) (TL PL : List D) (hT : TL = s.tasks.map taskD) (hP : PL = p.map (fun i => I (i : Nat))) (Q) (hq : ∀ L, L = (lateS s p).map I → Q (RA.ret (.tup [.sl 1 L, I 0])) []) :
    CallA Tryd.prog 61 [.agg [I s.benches, .sl 3 TL], .sl 1 PL] [] Q := by
  obtain ⟨A, hA⟩ : ∃ A, A = ar := ⟨_, rfl⟩
  have hv := chkS_val hs.chk
  have hpl : p.length ≤ 8 := by rw [hp.len]; have := hv.sum; omega
  have hlen := hv.len
  obtain ⟨N, hN⟩ : ∃ N, N = s.tasks.length := ⟨_, rfl⟩
  have hTl : TL.length = N := by rw [hT, hN]; simp
  refine callA_start tokT hA Tryd.func61 rfl rfl rfl rfl rfl fun S hS => ?_
  cbv
  refine ops_call hS [.agg [I s.benches, .sl 3 TL], .sl 1 PL] [] [] rfl rfl rfl rfl rfl rfl rfl rfl (by decide) trivial (bCheckPlan s hs p hp TL PL hT hP _ ?_)
  refine ops_go tokT hA hS ?_
  cbv
  refine bm (fun c => absurd rfl (xne hA c)) (fun _ => ?_)
  cbv
  refine ops_call hS [.agg [I s.benches, .sl 3 TL, .sl 1 PL]] [] [] rfl rfl rfl rfl rfl rfl rfl rfl (by decide) trivial (bEndsIn s hv p hp.le hpl TL PL hT hP _ fun EL hE => ?_)
  have hEl : EL.length = N := by rw [hE, hN]; simp [endsS_len]
  refine ops_go tokT hA hS ?_
  cbv
  refine at_code hS ?_
  refine wpa_loopG (α := Int × Nat × List D) (fun q => { env := [(2, .b 0 0), (7, .o 1 1 q.2.1), (20, .sl 2 EL), (21, I (A.oi (A.len EL))), (22, I q.1)], H := [.box (.agg [I s.benches, .sl 3 TL]), .els 1 q.2.2], nt := 54, dfs := [] })
    (fun q => N - q.2.1) (fun q => IsI q.1 q.2.1 ∧ q.2.1 ≤ N ∧ q.2.2 = ((lateS s p).take q.2.1).map I) (0, 0, []) ⟨⟨rfl⟩, Nat.zero_le _, rfl⟩ ?_ ?_
  · refine gs_virt 7 1 rfl ?_
    exact gs_to [0, 1] ⟨by decide, pre0, ⟨rfl, rfl, trivial⟩, ⟨rfl, rfl, rfl, rfl, rfl, trivial⟩, rfl, rfl⟩
  rintro ⟨i, k, L⟩ ⟨u1, u2, u3⟩
  dsimp only at u1 u2 u3
  have hLs : (lateS s p).length = N := by rw [hN]; simp [lateS]
  have hLl : L.length = k := by rw [u3]; simp [hLs]; omega
  refine wp_go tokT hA hS ?_
  cbv
  refine bm (fun c => ?_) (fun c => ?_)
  · have hk : k < N := yltL hA hEl u1 c
    obtain ⟨t, ht⟩ : ∃ t, t = s.tasks.getD k default := ⟨_, rfl⟩
    have htk : s.tasks[k]? = some t := by rw [ht, List.getD_eq_getElem?_getD, List.getElem?_eq_getElem (by omega)]; rfl
    obtain ⟨WL, hWL⟩ : ∃ WL, WL = t.works.map workD := ⟨_, rfl⟩
    have hTk : TL[k]? = some (.agg [I t.ready, I t.due, .sl 3 WL]) := by rw [hT]; simp [htk, hWL, taskD]
    obtain ⟨e1, e2, he⟩ : ∃ e1 e2, (endsS s p)[k]? = some (e1, e2) := ⟨_, _, List.getElem?_eq_getElem (by rw [endsS_len]; omega)⟩
    have hEk : EL[k]? = some (.agg [I e1, I e2]) := by rw [hE]; simp [he, rngD]
    have hat : (lateS s p)[k]? = some (lateV (e1, e2) t.due) := by
      rw [lateS, List.getElem?_map, List.getElem?_range (by omega), Option.map_some, ← ht, List.getD_eq_getElem?_getD, he]; rfl
    have i1 := yinbL hA hEl u1 hk
    have i2 := yinbL hA hTl u1 hk
    have g1 := yget hA u1 hEk
    have g2 := yget hA u1 hTk
    have hf1 := yfit1 hA u1 (by omega)
    have hu1 := ysucc hA u1
    have hms : N - (k + 1) < N - k := by omega
    have hkb : k ≤ 1000000 := by omega
    have hnx : ∀ v, lateV (e1, e2) t.due = v → A.app L [I v] = ((lateS s p).take (k + 1)).map I := fun v h => by
      rw [xapp hA, List.take_add_one, hat, u3, h]; simp
    have hv1 : t.due < e1 → lateV (e1, e2) t.due = 1 := fun h => by simp only [lateV]; rw [if_pos h]
    have hv2 : e1 ≤ t.due → e2 ≤ t.due → lateV (e1, e2) t.due = 2 := fun h h2 => by simp only [lateV]; rw [if_neg (by omega), if_pos h2]
    have hv3 : e1 ≤ t.due → t.due < e2 → lateV (e1, e2) t.due = 3 := fun h h2 => by simp only [lateV]; rw [if_neg (by omega), if_neg (by omega)]
    cbv
    refine ⟨i1, ⟨_, g1, ?_⟩⟩
    cbv
    refine ⟨i2, ⟨_, g2, ?_⟩⟩
    cbv
    refine bm (fun c1 => ?_) (fun c1 => ?_)
    · have hn := hnx 1 (hv1 (xgt hA c1))
      cbv
      refine ⟨yeqLen hA hLl, yeqLen hA rfl, yroom1 hA hkb (by decide), hf1, ?_⟩
      refine gs_loop (A.add i 1, k + 1, A.app L [I 1]) [0, 4] ⟨hu1, hk, hn⟩ hms ?_
      exact ⟨by decide, pre0, ⟨rfl, rfl, trivial⟩, ⟨rfl, by subst hA; rfl, rfl, rfl, rfl, trivial⟩, rfl, rfl⟩
    · cbv
      refine bm (fun c2 => ?_) (fun c2 => ?_)
      · have hn := hnx 2 (hv2 (xngt hA c1) (xle hA c2))
        cbv
        refine ⟨yeqLen hA hLl, yeqLen hA rfl, yroom1 hA hkb (by decide), hf1, ?_⟩
        refine gs_loop (A.add i 1, k + 1, A.app L [I 2]) [0, 4] ⟨hu1, hk, hn⟩ hms ?_
        exact ⟨by decide, pre0, ⟨rfl, rfl, trivial⟩, ⟨rfl, by subst hA; rfl, rfl, rfl, rfl, trivial⟩, rfl, rfl⟩
      · have hn := hnx 3 (hv3 (xngt hA c1) (xnle hA c2))
        cbv
        refine ⟨yeqLen hA hLl, yeqLen hA rfl, yroom1 hA hkb (by decide), hf1, ?_⟩
        refine gs_loop (A.add i 1, k + 1, A.app L [I 3]) [0, 4] ⟨hu1, hk, hn⟩ hms ?_
        exact ⟨by decide, pre0, ⟨rfl, rfl, trivial⟩, ⟨rfl, by subst hA; rfl, rfl, rfl, rfl, trivial⟩, rfl, rfl⟩
  · have hk : k = N := by have := ynltL hA hEl u1 c; omega
    have hLf : L = (lateS s p).map I := by rw [u3, List.take_of_length_le (by omega)]
    cbv
    refine gs_done ?_
    cbv
    refine gh_frz [1] ?_
    cbv
    exact ⟨by cases L <;> exact hLl.symm, gh_view [] (by decide) pre0 (H' := []) (d' := .tup [.sl 1 L, I 0]) trivial rfl (gh_done (hq L hLf))⟩

/-- right. -/
theorem kRight (v : Int) (is : Bool) (h : v = 3 ∨ v = 1 ∧ is = true ∨ v = 2 ∧ is = false) (Q) (hq : Q (RA.ret (.v (.bool true))) []) : CallA Tryd.prog 63 [I v, .v (.bool is)] [] Q := by
  rcases h with rfl | ⟨rfl, rfl⟩ | ⟨rfl, rfl⟩
  all_goals
    refine callA_start (A := ar) tokT rfl Tryd.func63 rfl rfl rfl rfl rfl fun S hS => ?_
    first
      | cases is <;> (cbv; exact gh_done hq)
      | (cbv; exact gh_done hq)
end Go.Proofs.YtmloogdalecilaaDoor

/-! P4 -/
namespace Go.Proofs.YtmloogdalecilaaDoor
open Go Go.Abs Go.Proofs

/-! With more hours nothing is sooner. -/
structure LeS (x y : Stt) : Prop where
  t : x.t = y.t
  k : x.k = y.k
  b : x.b = y.b
  bg : x.bg ≤ y.bg
  en : x.en ≤ y.en
inductive LeL : List Stt → List Stt → Prop
  | nil : LeL [] []
  | cons {x y : Stt} {l m : List Stt} (h : LeS x y) (r : LeL l m) : LeL (x :: l) (y :: m)

theorem LeL.snoc {l m : List Stt} (h : LeL l m) {x y : Stt} (h' : LeS x y) : LeL (l ++ [x]) (m ++ [y]) := by
  induction h with
  | nil => exact .cons h' .nil
  | cons a _ ih => exact .cons a ih

theorem LeL.get {l m : List Stt} (h : LeL l m) : ∀ {n : Nat} {x y : Stt}, l[n]? = some x → m[n]? = some y → LeS x y := by
  induction h with
  | nil => intro n x y h1; simp at h1
  | cons a _ ih =>
    intro n x y h1 h2
    cases n with
    | zero => simp at h1 h2; rw [← h1, ← h2]; exact a
    | succ n => exact ih (n := n) (by simpa using h1) (by simpa using h2)

theorem fo_mono (c : Stt → Bool) (hc : ∀ a b, LeS a b → c a = c b) {l m : List Stt} (hl : LeL l m) : ∀ x y : Int, x ≤ y → fo c x l ≤ fo c y m := by
  induction hl with
  | nil => exact fun x y h => h
  | @cons a b l m ha _ ih =>
    intro x y h
    simp only [fo, List.foldl_cons] at ih ⊢
    rw [hc a b ha]
    have := ha.en
    exact ih _ _ (by split <;> omega)

theorem fo_ge (c : Stt → Bool) : ∀ (l : List Stt) (a : Int), a ≤ fo c a l ∧ ∀ o ∈ l, c o = true → o.en ≤ fo c a l
  | [], a => ⟨Int.le_refl _, fun o h => by simp at h⟩
  | o :: l, a => by
    simp only [fo, List.foldl_cons]
    obtain ⟨h1, h2⟩ := fo_ge c l (if c o = true then max a o.en else a)
    simp only [fo] at h1 h2
    refine ⟨Int.le_trans (by split <;> omega) h1, fun x hx hcx => ?_⟩
    rcases List.mem_cons.1 hx with rfl | hx
    · rw [if_pos hcx] at h1 ⊢; omega
    · exact h2 x hx hcx

section
variable {s : Sh} {p : List Nat}

theorem plan_cnt (hp : PlanLe s p) {n i : Nat} (hpn : p[n]? = some i) : i < s.tasks.length ∧ (p.take n).count i < (s.tasks.getD i default).works.length := by
  have hi : i < s.tasks.length := hp.lt i (List.mem_of_getElem? hpn)
  refine ⟨hi, ?_⟩
  have h1 := take_succ_count hpn i
  rw [if_pos rfl] at h1
  have h2 : (p.take (n + 1)).count i ≤ p.count i := (List.take_sublist _ _).count_le i
  have := hp.cnt i hi
  omega

theorem doneN_mono (hp : PlanLe s p) (h1 h2 : Nat → Nat → Int) (hh : ∀ t c, t < s.tasks.length → c < (s.tasks.getD t default).works.length → h1 t c ≤ h2 t c) : ∀ n, n ≤ p.length → LeL (doneN s p h1 n) (doneN s p h2 n)
  | 0, _ => .nil
  | n + 1, hn => by
    have ih := doneN_mono hp h1 h2 hh n (by omega)
    have hpn : p[n]? = some p[n] := List.getElem?_eq_getElem (by omega)
    have hpd : p.getD n 0 = p[n] := by rw [List.getD_eq_getElem?_getD, hpn]; rfl
    obtain ⟨ht, hc⟩ := plan_cnt hp hpn
    have := hh _ _ ht hc
    have hf := fo_mono (fun o => decide (o.t = ((p[n] : Nat) : Int)) || decide (o.b = (workAt s p[n] ((p.take n).count p[n])).b)) (fun a b h => by rw [h.t, h.b]) ih (s.tasks.getD p[n] default).ready _ (Int.le_refl _)
    refine ih.snoc ⟨?_, ?_, ?_, ?_, ?_⟩ <;> simp only [stepD, hpd]
    · exact hf
    · omega

theorem doneN_take (s p h) : ∀ n m, m ≤ n → (doneN s p h n).take m = doneN s p h m
  | 0, m, hm => by rw [Nat.le_zero.1 hm]; rfl
  | n + 1, m, hm => by
    by_cases e : m = n + 1
    · rw [e, List.take_of_length_le (by rw [doneN_len]; exact Nat.le_refl _)]
    · rw [doneN, List.take_append_of_le_length (by rw [doneN_len]; omega)]
      exact doneN_take s p h n m (by omega)

theorem doneN_at (s p h) {n m : Nat} (hm : m < n) : (doneN s p h n)[m]? = some (stepD s p h m (doneN s p h m)) := by
  have e := doneN_take s p h n (m + 1) hm
  have : ((doneN s p h n).take (m + 1))[m]? = some (stepD s p h m (doneN s p h m)) := by
    rw [e, doneN, List.getElem?_append_right (by rw [doneN_len]; exact Nat.le_refl _), doneN_len]; simp
  rw [List.getElem?_take, if_pos (by omega)] at this
  exact this

/-- A truth lies between the best case and the worst one. -/
structure TrueAt (x : Sl) (o : Stt) : Prop where
  t : o.t = x.t
  k : o.k = x.k
  b : o.b = x.b
  b1 : x.bl ≤ o.bg
  b2 : o.bg ≤ x.bh
  e1 : x.el ≤ o.en
  e2 : o.en ≤ x.eh

theorem true_at (hv : Val s) (hp : PlanLe s p) {e : Int} {g : List (List Int)} (hg : HrsOk s e s.tasks.length g) {n : Nat} {x : Sl} {o : Stt} (hx : (runS s (fun _ => 0) p)[n]? = some x) (ho : (doneN s p (grH g) p.length)[n]? = some o) : TrueAt x o := by
  have lo := doneN_mono hp (fun t c => sel false (workAt s t c).lo (workAt s t c).hi) (grH g) (fun t c h1 h2 => (grH_of hg h1 h2).ge) p.length (Nat.le_refl _)
  have hi := doneN_mono hp (grH g) (fun t c => sel true (workAt s t c).lo (workAt s t c).hi) (fun t c h1 h2 => (grH_of hg h1 h2).le) p.length (Nat.le_refl _)
  rw [done_run hv hp false _ (fun _ _ _ _ => rfl) _ (Nat.le_refl _), List.take_of_length_le (by simp [runS_length])] at lo
  rw [done_run hv hp true _ (fun _ _ _ _ => rfl) _ (Nat.le_refl _), List.take_of_length_le (by simp [runS_length])] at hi
  have l := lo.get (by rw [List.getElem?_map, hx]; rfl) ho
  have h := hi.get ho (by rw [List.getElem?_map, hx]; rfl)
  exact ⟨l.t.symm, l.k.symm, l.b.symm, l.bg, h.bg, l.en, h.en⟩

/-- No bench does two works at once. -/
theorem true_bench {g : Nat → Nat → Int} {k n : Nat} (hk : k < n) (hn : n < p.length) {ok on : Stt} (h1 : (doneN s p g p.length)[k]? = some ok) (h2 : (doneN s p g p.length)[n]? = some on) (hb : ok.b = on.b) : ok.en ≤ on.bg := by
  have e2 := doneN_at s p g hn
  rw [h2] at e2
  cases e2
  have hm : ok ∈ doneN s p g n := by
    have e := doneN_take s p g p.length n (by omega)
    rw [← e]
    exact List.mem_of_getElem? (by rw [List.getElem?_take, if_pos hk]; exact h1)
  have := (fo_ge (fun o => decide (o.t = ((p.getD n 0 : Nat) : Int)) || decide (o.b = (workAt s (p.getD n 0) ((p.take n).count (p.getD n 0))).b)) (doneN s p g n) (s.tasks.getD (p.getD n 0) default).ready).2 ok hm (by
    have : ok.b = (workAt s (p.getD n 0) ((p.take n).count (p.getD n 0))).b := hb
    simp [this])
  exact this

theorem run_after (hv : Val s) (hp : PlanLe s p) (sd : Bool) {k n : Nat} (hk : k < n) {x y : Sl} (hx : (runS s (fun _ => 0) p)[k]? = some x) (hy : (runS s (fun _ => 0) p)[n]? = some y) (h : x.b = y.b ∨ x.t = y.t) : pk sd x.el x.eh ≤ pk sd y.bl y.bh := by
  have hn : n < p.length := by have := (List.getElem?_eq_some_iff.1 hy).1; rwa [runS_length] at this
  have hpn : p[n]? = some p[n] := List.getElem?_eq_getElem hn
  have hf := bg_fo hv hp sd hpn hy
  obtain ⟨y', hy', hr⟩ := run_facts hv hp hpn
  rw [hy] at hy'; cases hy'
  rw [hf]
  have := (fo_ge (fun o => decide (o.t = ((p[n] : Nat) : Int)) || decide (o.b = y.b)) (((runS s (fun _ => 0) p).map (sttOf sd)).take n) (s.tasks.getD p[n] default).ready).2 (sttOf sd x) (List.mem_of_getElem? (i := k) (by rw [List.getElem?_take, if_pos hk, List.getElem?_map, hx]; rfl)) (by
    rcases h with h | h
    · simp [sttOf, h]
    · simp [sttOf, h, hr.t])
  exact this

/-- The last end, and when orders end. -/
def finM (l : List Stt) : Int := l.foldl (fun a o => max a o.en) 0
def finT (n : Nat) (l : List Stt) : List Int := l.foldl (fun a o => a.set o.t.toNat o.en) (List.replicate n 0)

theorem finM_snoc (l : List Stt) (o : Stt) : finM (l ++ [o]) = max (finM l) o.en := by simp only [finM, List.foldl_append, List.foldl_cons, List.foldl_nil]
theorem finT_snoc (n : Nat) (l : List Stt) (o : Stt) : finT n (l ++ [o]) = (finT n l).set o.t.toNat o.en := by simp only [finT, List.foldl_append, List.foldl_cons, List.foldl_nil]
theorem endsF_snoc (n : Nat) (l : List Sl) (x : Sl) : endsF n (l ++ [x]) = (endsF n l).set x.t.toNat (x.el, x.eh) := by simp only [endsF, List.foldl_append, List.foldl_cons, List.foldl_nil]
theorem finT_len (n : Nat) (l : List Stt) : (finT n l).length = n := by
  unfold finT
  have : ∀ (l : List Stt) (a : List Int), (l.foldl (fun a o => a.set o.t.toNat o.en) a).length = a.length := fun l => by
    induction l with
    | nil => exact fun _ => rfl
    | cons o l ih => exact fun a => by rw [List.foldl_cons, ih]; simp
  rw [this]; simp

theorem true_last {R : List Sl} {D : List Stt} (h : ∀ (n : Nat) (x : Sl) (o : Stt), R[n]? = some x → D[n]? = some o → TrueAt x o) (hl : R.length = D.length) : ∀ n, n ≤ R.length → (lastS (R.take n)).1 ≤ finM (D.take n) ∧ finM (D.take n) ≤ (lastS (R.take n)).2
  | 0, _ => ⟨Int.le_refl _, Int.le_refl _⟩
  | n + 1, hn => by
    obtain ⟨i1, i2⟩ := true_last h hl n (by omega)
    have hx : R[n]? = some R[n] := List.getElem?_eq_getElem (by omega)
    have ho : D[n]? = some D[n] := List.getElem?_eq_getElem (by omega)
    have ht := h n _ _ hx ho
    have := ht.e1; have := ht.e2
    rw [List.take_add_one, List.take_add_one, hx, ho, Option.toList_some, Option.toList_some, lastS_snoc, finM_snoc]
    simp only
    omega

theorem true_ends {N : Nat} {R : List Sl} {D : List Stt} (h : ∀ (n : Nat) (x : Sl) (o : Stt), R[n]? = some x → D[n]? = some o → TrueAt x o) (hl : R.length = D.length) : ∀ n, n ≤ R.length → ∀ (i : Nat) (e : Int × Int) (f : Int), (endsF N (R.take n))[i]? = some e → (finT N (D.take n))[i]? = some f → e.1 ≤ f ∧ f ≤ e.2
  | 0, _, i, e, f, he, hf => by
    simp only [List.take_zero, endsF, finT, List.foldl_nil, List.getElem?_replicate] at he hf
    split at he
    · rename_i hi
      rw [if_pos hi] at hf
      cases he; cases hf
      exact ⟨Int.le_refl _, Int.le_refl _⟩
    · cases he
  | n + 1, hn, i, e, f, he, hf => by
    have ih := true_ends (N := N) h hl n (by omega) i
    have hx : R[n]? = some R[n] := List.getElem?_eq_getElem (by omega)
    have ho : D[n]? = some D[n] := List.getElem?_eq_getElem (by omega)
    have ht := h n _ _ hx ho
    rw [List.take_add_one, hx, Option.toList_some, endsF_snoc, List.getElem?_set] at he
    rw [List.take_add_one, ho, Option.toList_some, finT_snoc, List.getElem?_set, ht.t] at hf
    split at he
    · rename_i hi
      rw [if_pos hi] at hf
      split at he
      · split at hf
        · cases he; cases hf; exact ⟨ht.e1, ht.e2⟩
        · cases hf
      · cases he
    · rename_i hi
      rw [if_neg hi] at hf
      exact ih e f he hf

theorem late_right {e : Int × Int} {f due : Int} (h1 : e.1 ≤ f) (h2 : f ≤ e.2) : lateV e due = 3 ∨ lateV e due = 1 ∧ decide (due < f) = true ∨ lateV e due = 2 ∧ decide (due < f) = false := by
  unfold lateV
  split
  · exact .inr (.inl ⟨rfl, decide_eq_true (by omega)⟩)
  · split
    · exact .inr (.inr ⟨rfl, decide_eq_false (by omega)⟩)
    · exact .inl rfl
end
end Go.Proofs.YtmloogdalecilaaDoor

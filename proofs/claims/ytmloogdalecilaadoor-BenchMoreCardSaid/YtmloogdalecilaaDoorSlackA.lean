/- Part SlackA of the proofs about the benches of the accordion maker: see the last text of the claim for what is proved. -/
import Derived.Test.YtmloogdalecilaaDoorFirstA
set_option linter.unusedVariables false
set_option linter.unusedSimpArgs false
set_option linter.unnecessarySimpa false
set_option linter.constructorNameAsVariable false

/-! P6 -/
namespace Go.Proofs.YtmloogdalecilaaDoor
open Go Go.Abs Go.Proofs

/-! A shop of which one work takes longer. -/
def longW (T : Tk) (k : Nat) (x : Int) : Tk := ⟨T.ready, T.due, T.works.set k ⟨(T.works.getD k default).b, (T.works.getD k default).lo, (T.works.getD k default).hi + x⟩⟩
def longS (s : Sh) (t k : Nat) (x : Int) : Sh := ⟨s.benches, s.tasks.set t (longW (s.tasks.getD t default) k x)⟩

section
variable {s : Sh} {t k : Nat} {x : Int}

theorem longS_len : (longS s t k x).tasks.length = s.tasks.length := by simp [longS]
theorem longS_get (ht : t < s.tasks.length) (i : Nat) : (longS s t k x).tasks.getD i default = if i = t then longW (s.tasks.getD t default) k x else s.tasks.getD i default := by
  rw [longS, getD_set _ _ _ _ _ ht]
theorem longW_len {T : Tk} : (longW T k x).works.length = T.works.length := by simp [longW]
theorem longS_works (ht : t < s.tasks.length) (i : Nat) : ((longS s t k x).tasks.getD i default).works.length = (s.tasks.getD i default).works.length := by
  rw [longS_get ht]; split
  · rename_i e; subst e; exact longW_len
  · rfl
theorem longS_ready (ht : t < s.tasks.length) (i : Nat) : ((longS s t k x).tasks.getD i default).ready = (s.tasks.getD i default).ready := by
  rw [longS_get ht]; split
  · rename_i e; subst e; rfl
  · rfl
theorem longS_work (ht : t < s.tasks.length) (hk : k < (s.tasks.getD t default).works.length) (i j : Nat) : workAt (longS s t k x) i j = if i = t ∧ j = k then ⟨(workAt s t k).b, (workAt s t k).lo, (workAt s t k).hi + x⟩ else workAt s i j := by
  unfold workAt
  rw [longS_get ht]
  by_cases e : i = t
  · subst e
    rw [if_pos rfl]
    simp only [longW]
    rw [getD_set _ _ _ _ _ hk]
    by_cases e2 : j = k
    · rw [if_pos e2, if_pos ⟨trivial, e2⟩]
    · rw [if_neg e2, if_neg (fun h => e2 h.2)]
  · rw [if_neg e, if_neg (fun h => e h.1)]

theorem sum_set_same {α : Type} (f : α → Nat) : ∀ (l : List α) (i : Nat) (y : α), (∀ z, l[i]? = some z → f y = f z) → ((l.set i y).map f).sum = (l.map f).sum
  | [], _, _, _ => rfl
  | a :: l, 0, y, h => by simp [h a rfl]
  | a :: l, i + 1, y, h => by
    simp only [List.set_cons_succ, List.map_cons, List.sum_cons]
    rw [sum_set_same f l i y (fun z hz => h z (by simpa using hz))]

theorem longS_sum (ht : t < s.tasks.length) : nWorks (longS s t k x).tasks = nWorks s.tasks := by
  unfold nWorks longS
  refine sum_set_same _ _ _ _ fun z hz => ?_
  rw [longW_len, List.getD_eq_getElem?_getD, hz]; rfl

theorem longS_mem {T : Tk} (h : T ∈ (longS s t k x).tasks) : T ∈ s.tasks ∨ T = longW (s.tasks.getD t default) k x := List.mem_or_eq_of_mem_set h

theorem longS_val (hv : Val s) (ht : t < s.tasks.length) (hk : k < (s.tasks.getD t default).works.length) (h0 : 0 ≤ x) (h20 : (workAt s t k).hi + x ≤ 20) : Val (longS s t k x) := by
  have hT := getD_mem (d := default) ht
  refine ⟨hv.b0, hv.b1, by rw [longS_len]; exact hv.len, fun T h => ?_, fun T h => ?_, fun T h => ?_, fun T h w hw => ?_, by rw [longS_sum ht]; exact hv.sum⟩
  · rcases longS_mem h with h | rfl
    · exact hv.rd T h
    · exact hv.rd (s.tasks.getD t default) hT
  · rcases longS_mem h with h | rfl
    · exact hv.du T h
    · exact hv.du (s.tasks.getD t default) hT
  · rcases longS_mem h with h | rfl
    · exact hv.ne T h
    · intro e
      have := congrArg List.length e
      rw [longW_len] at this
      simp only [List.length_nil] at this
      omega
  · rcases longS_mem h with h | rfl
    · exact hv.wk T h w hw
    · rcases List.mem_or_eq_of_mem_set hw with hw | rfl
      · exact hv.wk _ hT w hw
      · have := hv.wk _ hT _ (getD_mem (d := default) hk)
        simp only [workAt] at h20
        simp only
        have e : (longS s t k x).benches = s.benches := rfl
        rw [e]
        omega

/-- What a valid shop is. -/
theorem val_chk {s : Sh} (hv : Val s) : ShopOk s := by
  have hws : ∀ (l : List Wk) b, (∀ w ∈ l, chkW b w = 0) → chkWs b l = 0 := fun l b hl => by
    induction l with
    | nil => rfl
    | cons w r ih => simp only [chkWs]; rw [if_pos (hl w List.mem_cons_self)]; exact ih fun w hw => hl w (List.mem_cons_of_mem _ hw)
  have hts : ∀ (l : List Tk) b, (∀ w ∈ l, chkT b w = 0) → chkTs b l = 0 := fun l b hl => by
    induction l with
    | nil => rfl
    | cons w r ih => simp only [chkTs]; rw [if_pos (hl w List.mem_cons_self)]; exact ih fun w hw => hl w (List.mem_cons_of_mem _ hw)
  have h1 := hv.b0; have h2 := hv.b1; have h3 := hv.len; have h4 := hv.sum
  have ht : ∀ t ∈ s.tasks, chkT s.benches t = 0 := fun t hm => by
    have r := hv.rd t hm; have d := hv.du t hm; have n := hv.ne t hm
    unfold chkT
    rw [if_neg, if_neg, if_neg n]
    · refine hws _ _ fun w hw => ?_
      have := hv.wk t hm w hw
      unfold chkW
      rw [if_neg, if_neg, if_neg, if_neg]
      · omega
      · simp [amg]; omega
      · simp [amg]; omega
      · simp [amg]; omega
    · simp [amg]; omega
    · simp [amg]; omega
  refine ⟨?_, by omega, by omega, fun t hm => ?_⟩
  · unfold chkS
    rw [if_neg, if_neg, if_pos (hts _ _ ht), if_neg]
    · omega
    · omega
    · simp [amg]; omega
  · obtain ⟨i, hi⟩ := List.mem_iff_getElem?.1 hm
    have h5 := leftS_at hi
    have h6 := getD_le_sum (leftS s) i
    rw [leftS_sum] at h6
    omega

theorem longS_plan {p : List Nat} (hp : PlanOk s p) (ht : t < s.tasks.length) : PlanOk (longS s t k x) p :=
  ⟨fun i hi => by rw [longS_len]; exact hp.lt i hi, fun i hi => by rw [longS_works ht]; exact hp.cnt i (by rwa [longS_len] at hi), by rw [longS_sum ht]; exact hp.len⟩

theorem longS_init (ht : t < s.tasks.length) : initC (longS s t k x) = initC s := by
  have e : (longS s t k x).tasks.map (·.ready) = s.tasks.map (·.ready) := by
    refine List.ext_getElem? fun i => ?_
    rw [List.getElem?_map, List.getElem?_map]
    simp only [longS, List.getElem?_set]
    split
    · rename_i e; subst e
      rw [List.getElem?_eq_getElem ht]
      simp [longW, List.getD_eq_getElem?_getD, List.getElem?_eq_getElem ht]
    · rfl
  simp only [initC, e]

/-- A longer work is the work with hours more. -/
theorem longS_ck (hv : Val s) {p : List Nat} (hp : PlanLe s p) {a : Nat} (ha : p[a]? = some t) (hk : k = (p.take a).count t) (h0 : 0 ≤ x) : ∀ n, n ≤ p.length → ckAt true (longS s t k x) (fun _ => 0) (initC (longS s t k x)) 0 p n = ckAt true s (mo1 a x) (initC s) 0 p n ∧
    ∀ i, p[n]? = some i → stepC true (longS s t k x) (ckAt true s (mo1 a x) (initC s) 0 p n) i 0 = stepC true s (ckAt true s (mo1 a x) (initC s) 0 p n) i (mo1 a x n) := by
  obtain ⟨ht, hkl⟩ := plan_cnt hp ha
  rw [← hk] at hkl
  have hm : ∀ b, 0 ≤ mo1 a x b ∧ mo1 a x b ≤ x := fun b => by simp only [mo1]; split <;> omega
  have step : ∀ n i, p[n]? = some i → stepC true (longS s t k x) (ckAt true s (mo1 a x) (initC s) 0 p n) i 0 = stepC true s (ckAt true s (mo1 a x) (initC s) 0 p n) i (mo1 a x n) := fun n i hi => by
    have hn := (List.getElem?_eq_some_iff.1 hi).1
    have hck := ck_ok (sd := true) (more := mo1 a x) hv hp h0 hm n (by omega)
    have hil := hp.lt i (List.mem_of_getElem? hi)
    have hlen := hv.len
    have hd := hck.dc i (by omega)
    simp only [stepC, hd]
    rw [longS_work ht hkl]
    by_cases e : i = t ∧ (p.take n).count i = k
    · rw [if_pos e]
      have : n = a := by
        obtain ⟨e1, e2⟩ := e
        subst e1
        rcases Nat.lt_trichotomy n a with h | h | h
        · have g1 := take_succ_count hi i
          rw [if_pos rfl] at g1
          have g2 : (p.take (n + 1)).count i ≤ (p.take a).count i := by
            have : p.take (n + 1) = (p.take a).take (n + 1) := by rw [List.take_take, Nat.min_eq_left (by omega)]
            rw [this]; exact (List.take_sublist _ _).count_le i
          omega
        · exact h
        · have g1 := take_succ_count ha i
          rw [if_pos rfl] at g1
          have g2 : (p.take (a + 1)).count i ≤ (p.take n).count i := by
            have : p.take (a + 1) = (p.take n).take (a + 1) := by rw [List.take_take, Nat.min_eq_left (by omega)]
            rw [this]; exact (List.take_sublist _ _).count_le i
          omega
      subst this
      obtain ⟨e1, e2⟩ := e
      subst e1
      rw [e2]
      simp only [mo1, if_true, sel]
      congr 1
      omega
    · rw [if_neg e]
      have : mo1 a x n = 0 := by
        simp only [mo1]
        rw [if_neg]
        intro h; subst h
        rw [ha] at hi; cases hi
        exact e ⟨rfl, hk.symm⟩
      rw [this]
  intro n
  induction n with
  | zero => intro _; exact ⟨by simp only [ckAt]; exact longS_init ht, step 0⟩
  | succ n ih =>
    intro hn
    refine ⟨?_, step (n + 1)⟩
    have hpn : p[n]? = some p[n] := List.getElem?_eq_getElem (by omega)
    obtain ⟨h1, h2⟩ := ih (by omega)
    rw [ckAt_succ _ _ _ p _ _ _ _ hpn, ckAt_succ _ _ _ p _ _ _ _ hpn, h1]
    simp only [Nat.zero_add]
    rw [h2 _ hpn]

theorem lastS_eh (l : List Sl) : (lastS l).2 = (l.map (·.eh)).foldl max 0 := by
  have key : ∀ (l : List Sl) (a : Int × Int), (l.foldl (fun a s => (max a.1 s.el, max a.2 s.eh)) a).2 = (l.map (·.eh)).foldl max a.2 := fun l => by
    induction l with
    | nil => exact fun _ => rfl
    | cons x l ih => exact fun a => by rw [List.foldl_cons, ih]; rfl
  exact key l (0, 0)

theorem longS_last (hv : Val s) {p : List Nat} (hp : PlanLe s p) {a : Nat} (ha : p[a]? = some t) (hk : k = (p.take a).count t) (h0 : 0 ≤ x) : (lastS (runS (longS s t k x) (fun _ => 0) p)).2 = lastM s p a x := by
  rw [lastM, lastS_eh, lastS_eh]
  congr 1
  simp only [runS, List.map_map]
  refine List.map_congr_left fun n hn => ?_
  have hn := List.mem_range.1 hn
  have hpn : p[n]? = some p[n] := List.getElem?_eq_getElem hn
  have hpd : p.getD n 0 = p[n] := by rw [List.getD_eq_getElem?_getD, hpn]; rfl
  obtain ⟨h1, h2⟩ := longS_ck (x := x) hv hp ha hk h0 n (by omega)
  simp only [Function.comp, hpd]
  rw [h1, h2 _ hpn]

/-! What slack is. -/
theorem slkN_spec {p : List Nat} {e : Int} {a : Nat} (hge : ∀ y : Int, 0 ≤ y → y ≤ lastM s p a y) (h0 : 0 ≤ e) : ∀ (f n : Nat), (1 ≤ n → lastM s p a (n : Int) ≤ e) → e < n + f →
    (1 ≤ slkN s p e a f n → lastM s p a ((slkN s p e a f n : Nat) : Int) ≤ e) ∧ e < lastM s p a ((slkN s p e a f n + 1 : Nat) : Int)
  | 0, n, h1, h2 => by
    simp only [slkN]
    refine ⟨h1, ?_⟩
    have := hge ((n + 1 : Nat) : Int) (by omega)
    omega
  | f + 1, n, h1, h2 => by
    unfold slkN
    split
    · rename_i c
      exact slkN_spec hge h0 f (n + 1) (fun _ => c) (by omega)
    · rename_i c
      exact ⟨h1, by omega⟩

theorem mo1_zero (a : Nat) : mo1 a 0 = fun _ => 0 := by funext n; simp [mo1]

/-- The end of a valid plan, tight. -/
theorem eh_tight (hv : Val s) {p : List Nat} (hp : PlanLe s p) {R : Int} (hR : 0 ≤ R) (hr : ∀ t ∈ s.tasks, t.ready ≤ R) : ∀ n, n ≤ p.length → ∀ o ∈ ((runS s (fun _ => 0) p).map (sttOf true)).take n, o.en ≤ R + n * 20
  | 0, _, o, h => by simp at h
  | n + 1, hn, o, h => by
    have ih := eh_tight hv hp hR hr n (by omega)
    have hpn : p[n]? = some p[n] := List.getElem?_eq_getElem (by omega)
    obtain ⟨y, hy, hf⟩ := run_facts hv hp hpn
    rw [List.take_add_one, List.getElem?_map, hy] at h
    rcases List.mem_append.1 h with h | h
    · have := ih o h; omega
    · simp at h
      subst h
      have hb := bg_fo hv hp true hpn hy
      have hle : ∀ (c : Stt → Bool) (l : List Stt) (a B : Int), a ≤ B → (∀ o ∈ l, o.en ≤ B) → fo c a l ≤ B := fun c l => by
        induction l with
        | nil => exact fun a B h _ => h
        | cons o l ih2 =>
          intro a B h1 h2
          simp only [fo, List.foldl_cons] at ih2 ⊢
          have := h2 o List.mem_cons_self
          exact ih2 _ _ (by split <;> omega) fun o ho => h2 o (List.mem_cons_of_mem _ ho)
      have h3 := hle (fun o => decide (o.t = ((p[n] : Nat) : Int)) || decide (o.b = y.b)) _ (s.tasks.getD p[n] default).ready (R + n * 20) (by
        have := hr _ (getD_mem (d := default) hf.hi); omega) ih
      rw [← hb] at h3
      have h4 := hf.en true
      have h5 := work_ok hv hf.hi hf.kl
      simp only [sttOf, sel] at h4 ⊢
      omega

theorem last_tight (hv : Val s) {p : List Nat} (hp : PlanLe s p) {R : Int} (hR : 0 ≤ R) (hr : ∀ t ∈ s.tasks, t.ready ≤ R) : (lastS (runS s (fun _ => 0) p)).2 ≤ R + p.length * 20 := by
  refine foldl_max2_le _ _ (fun x hx => ?_) _ (by simp only; omega)
  have := eh_tight hv hp hR hr p.length (Nat.le_refl _) (sttOf true x) (by
    rw [List.take_of_length_le (by simp [runS_length])]
    exact List.mem_map.2 ⟨x, hx, rfl⟩)
  exact this

/-- Slack, as the statement asks it. -/
structure SlackIs (s : Sh) (p : List Nat) (a n : Nat) : Prop where
  le : (n : Int) ≤ 200
  no : lastM s p a (n : Int) ≤ (lastS (runS s (fun _ => 0) p)).2
  yes : (lastS (runS s (fun _ => 0) p)).2 < lastM s p a ((n + 1 : Nat) : Int)

theorem slack_is (hv : Val s) {p : List Nat} (hp : PlanLe s p) (hpl : p.length ≤ 8) (hr : ∀ t ∈ s.tasks, t.ready ≤ 6) {a : Nat} (ha : a < p.length) : SlackIs s p a (slkN s p (lastS (runS s (fun _ => 0) p)).2 a 400 0) := by
  obtain ⟨e, he⟩ : ∃ e, e = (lastS (runS s (fun _ => 0) p)).2 := ⟨_, rfl⟩
  rw [← he]
  have h0 : 0 ≤ e := by rw [he]; exact lastS_nn _
  have h1 : e ≤ 166 := by rw [he]; have := last_tight hv hp (by decide) hr; omega
  have hge : ∀ y : Int, 0 ≤ y → y ≤ lastM s p a y := fun y hy => lastM_ge hv hp hpl ha hy
  obtain ⟨g1, g2⟩ := slkN_spec hge h0 400 0 (fun h => by omega) (by omega)
  have g3 : lastM s p a ((slkN s p e a 400 0 : Nat) : Int) ≤ e := by
    by_cases h : 1 ≤ slkN s p e a 400 0
    · exact g1 h
    · have : slkN s p e a 400 0 = 0 := by omega
      rw [this, lastM, show ((0 : Nat) : Int) = 0 from rfl, mo1_zero, he]; exact Int.le_refl _
  refine ⟨?_, by rw [← he]; exact g3, by rw [← he]; exact g2⟩
  have := hge ((slkN s p e a 400 0 : Nat) : Int) (by omega)
  omega

theorem foldl_max_mem : ∀ (l : List Int) (a : Int), l.foldl max a = a ∨ l.foldl max a ∈ l
  | [], a => .inl rfl
  | x :: l, a => by
    rw [List.foldl_cons]
    rcases foldl_max_mem l (max a x) with h | h
    · rw [h]
      by_cases c : a ≤ x
      · right; rw [Int.max_eq_right c]; exact List.mem_cons_self
      · left; omega
    · exact .inr (List.mem_cons_of_mem _ h)

/-- Where there is a work, one is critical. -/
theorem slack_zero (hv : Val s) {p : List Nat} (hp : PlanLe s p) (hpl : p.length ≤ 8) (hne : 0 < p.length) : ∃ a, a < p.length ∧ slkN s p (lastS (runS s (fun _ => 0) p)).2 a 400 0 = 0 := by
  obtain ⟨e, he⟩ : ∃ e, e = (lastS (runS s (fun _ => 0) p)).2 := ⟨_, rfl⟩
  have hpos : 0 < e := by
    have hp0 : p[0]? = some p[0] := List.getElem?_eq_getElem hne
    obtain ⟨y, hy, hf⟩ := run_facts hv hp hp0
    have := lastS_ge (List.mem_of_getElem? hy)
    have h4 := hf.en true
    have h5 := work_ok hv hf.hi hf.kl
    have h6 := hf.b0 true
    simp only [pk, sel] at h4 h6
    omega
  have hmem : e ∈ (runS s (fun _ => 0) p).map (·.eh) := by
    have := foldl_max_mem ((runS s (fun _ => 0) p).map (·.eh)) 0
    rw [← lastS_eh, ← he] at this
    rcases this with h | h
    · omega
    · exact h
  obtain ⟨x, hx, hxe⟩ := List.mem_map.1 hmem
  obtain ⟨a, ha⟩ := List.mem_iff_getElem?.1 hx
  have hal : a < p.length := by have := (List.getElem?_eq_some_iff.1 ha).1; rwa [runS_length] at this
  refine ⟨a, hal, ?_⟩
  rw [← he]
  show slkN s p e a (399 + 1) 0 = 0
  unfold slkN
  rw [if_neg]
  have hpa : p[a]? = some p[a] := List.getElem?_eq_getElem hal
  have hpd : p.getD a 0 = p[a] := by rw [List.getD_eq_getElem?_getD, hpa]; rfl
  have h1 := run_at (s := s) (fun _ => 0) hpa
  have h2 := run_at (s := s) (mo1 a 1) hpa
  have hck : ∀ n, n ≤ a → ckAt true s (mo1 a 1) (initC s) 0 p n = ckAt true s (fun _ => 0) (initC s) 0 p n := by
    intro n
    induction n with
    | zero => exact fun _ => rfl
    | succ n ih =>
      intro hn
      have hpn : p[n]? = some p[n] := List.getElem?_eq_getElem (by omega)
      rw [ckAt_succ _ _ _ p _ _ _ _ hpn, ckAt_succ _ _ _ p _ _ _ _ hpn, ih (by omega)]
      have : mo1 a 1 (0 + n) = 0 := by simp only [mo1]; rw [if_neg (by omega)]
      rw [this]
  rw [ha] at h1
  have e1 := congrArg Sl.eh (Option.some.inj h1)
  have hl := lastS_ge (List.mem_of_getElem? h2)
  have e2 : (mo1 a 1 a) = 1 := by simp [mo1]
  simp only [hck a (Nat.le_refl _), e2] at hl
  have e3 : (stepC true s (ckAt true s (fun _ => 0) (initC s) 0 p a) p[a] 1).en = (stepC true s (ckAt true s (fun _ => 0) (initC s) 0 p a) p[a] 0).en + 1 := by simp only [stepC]; omega
  rw [e3] at hl
  simp only at e1
  rw [← e1, hxe] at hl
  show ¬ lastM s p a 1 ≤ e
  unfold lastM
  omega

/-- The critical places. -/
def critL (s : Sh) (p : List Nat) (n : Nat) : List Nat := (List.range n).filter fun a => slkN s p (lastS (runS s (fun _ => 0) p)).2 a 400 0 == 0

theorem critL_succ (s : Sh) (p : List Nat) (n : Nat) : critL s p (n + 1) = critL s p n ++ if slkN s p (lastS (runS s (fun _ => 0) p)).2 n 400 0 = 0 then [n] else [] := by
  unfold critL
  rw [List.range_succ, List.filter_append]
  congr 1
  by_cases h : slkN s p (lastS (runS s (fun _ => 0) p)).2 n 400 0 = 0
  · rw [if_pos h]; simp [h]
  · rw [if_neg h]; simp [h]

theorem critL_at (s : Sh) (p : List Nat) {n : Nat} (h : slkN s p (lastS (runS s (fun _ => 0) p)).2 n 400 0 = 0) : ∀ m, n < m → (critL s p m)[(critL s p n).length]? = some n
  | 0, hm => by omega
  | m + 1, hm => by
    rw [critL_succ]
    by_cases e : m = n
    · subst e; rw [if_pos h, List.getElem?_append_right (Nat.le_refl _)]; simp
    · have ih := critL_at s p h m (by omega)
      rw [List.getElem?_append_left (List.getElem?_eq_some_iff.1 ih).1]; exact ih

theorem critL_ne (hv : Val s) {p : List Nat} (hp : PlanLe s p) (hpl : p.length ≤ 8) (hne : 0 < p.length) : 0 < (critL s p p.length).length := by
  obtain ⟨a, ha, hz⟩ := slack_zero hv hp hpl hne
  have := critL_at s p hz p.length ha
  have := (List.getElem?_eq_some_iff.1 this).1
  omega
end
end Go.Proofs.YtmloogdalecilaaDoor

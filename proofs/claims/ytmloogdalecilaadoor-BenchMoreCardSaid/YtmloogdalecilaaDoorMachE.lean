/- Part MachE of the proofs about the benches of the accordion maker: see the last text of the claim for what is proved. -/
import Derived.Test.YtmloogdalecilaaDoorMachD
set_option linter.unusedVariables false
set_option linter.unusedSimpArgs false
set_option linter.unnecessarySimpa false
set_option linter.constructorNameAsVariable false

/-! A56 -/
namespace Go.Abs
open Go

/-- At a place, or behind the last. -/
def grPut {α : Type} (l : List α) (j : Nat) (x : α) : List α := l.take j ++ x :: l.drop (j + 1)
theorem grPut_get {α : Type} {l : List α} {j : Nat} (x : α) (h : j ≤ l.length) (i : Nat) : (grPut l j x)[i]? = if i = j then some x else l[i]? := by
  unfold grPut
  have hl : (l.take j).length = j := by simp; omega
  by_cases h1 : i < j
  · rw [List.getElem?_append_left (by omega), List.getElem?_take, if_pos h1, if_neg (by omega)]
  · rw [List.getElem?_append_right (by omega), hl]
    by_cases h2 : i = j
    · subst h2; simp
    · rw [if_neg h2]
      obtain ⟨n, rfl⟩ : ∃ n, i = j + 1 + n := ⟨i - j - 1, by omega⟩
      rw [show j + 1 + n - j = n + 1 by omega, List.getElem?_cons_succ, List.getElem?_drop]
theorem grPut_len {α : Type} (l : List α) (x : α) : grPut l l.length x = l ++ [x] := by unfold grPut; simp
theorem grPut_set {α : Type} {l : List α} {j : Nat} (x : α) (h : j < l.length) : grPut l j x = l.set j x := by
  refine List.ext_getElem? fun i => ?_
  rw [grPut_get x (by omega), List.getElem?_set]
  by_cases e : i = j
  · subst e; simp [h]
  · rw [if_neg e, if_neg (fun h => e h.symm)]

abbrev Ent := Value × Option (List D)

section
variable {P : Program} {T : TT} {r : Option Nat} {m : Nat} {Q : AX → St → Prop} {F : Fz} {μ : Mu} {w : World} {K : St → Prop} {s : St}

/-- A block is named by a slot, or by a cell of a box that a slot names. -/
def Nm (s : St) (k : Nat) : Prop := (∃ t sz n, getE s.env t = some (.o k sz n)) ∨ ∃ (t kb off : Nat) (d : D) (r sz n : Nat), getE s.env t = some (.b kb off) ∧ nthB s.H kb = some (.box d) ∧ d.cells[r]? = some (.o k sz n)

theorem vr_o_ne {k sz n : Nat} {v : Value} (h : VR F μ (.o k sz n) v) : μ k ≠ none := by
  cases h with
  | cl _ _ hc => cases hc
  | o _ _ _ b m cap h1 h2 h3 => rw [h1]; simp
  | oNil _ _ a h1 => rw [h1]; simp

theorem Nm.ne {k : Nat} {a : Act} (h : Nm s k) (hr : RL m F μ s a w) : μ k ≠ none := by
  rcases h with ⟨t, sz, n, h1⟩ | ⟨t, kb, off, d, r, sz, n, h1, h2, h3⟩
  · obtain ⟨v, -, hv⟩ := hr.er.env t _ h1
    exact vr_o_ne hv
  · obtain ⟨v, -, hv⟩ := hr.er.env t _ h1
    cases hv with
    | cl _ _ hc => cases hc
    | b _ _ b m hμ =>
      obtain ⟨v, -, -, h4⟩ := hr.hr.cells (blk_box h2) hμ 0 d rfl r _ h3
      exact vr_o_ne h4

/-- None yet. -/
theorem gs_grNew (sz : Nat) (h : GS m K { s with H := s.H ++ [.ob (.gr sz [])] }) : GS m K s := by
  refine gs_trans (s' := { s with H := s.H ++ [.ob (.gr sz [])] }) (fun F μ act w h1 => ?_) h
  have hn : μ s.H.length = none := h1.hr.dom _ (Nat.le_refl _)
  have hat := updM_at μ s.H.length none
  have hget : (s.H ++ [Blk.ob (.gr sz [])])[s.H.length]? = some (.ob (.gr sz [])) := by simp
  have nf : ∀ b, ¬ Foot (updM μ s.H.length none) s.H.length b := fun b hf => by
    rcases hf with ⟨m, hm⟩ | hf
    · rw [hat] at hm; cases hm
    · exact absurd hf (h1.hr.non _ hn b)
  obtain ⟨r1, r2, r3⟩ := hr_on (μ' := updM μ s.H.length none) (w' := w) (H' := s.H ++ [.ob (.gr sz [])]) (fun j => j = s.H.length) h1.hr (by simp) (fun k hk => by
      by_cases hlt : k < s.H.length
      · rw [List.getElem?_append_left hlt]
      · rw [List.getElem?_eq_none (by simp; omega), List.getElem?_eq_none (by omega)]) (fun j hj => updM_ne _ hj) (fun j b _ => Iff.rfl) (fun j hj y hy => by subst hj; rw [hn] at hy; cases hy) (Nat.le_refl _) rfl rfl rfl
    (fun _ _ _ => rfl) (fun k' b hk' _ hf => by subst hk'; exact absurd hf (nf b)) (fun k1 k2 b h1 h2 _ _ _ _ => h1.trans h2.symm) (fun k' hk' hle => by subst hk'; simp at hle; omega) (fun _ k' sz es hk' hb _ => by subst hk'; rw [blkOf_at hget] at hb; cases hb)
    (fun k' y hk' hb b => by subst hk'; rw [blkOf_at hget] at hb; cases hb) (fun hmono k' y hk' hyy _ => by
      subst hk'
      rw [obOf_at hget] at hyy; cases hyy
      exact ⟨hat, fun _ => 0, fun j e row he => by simp at he, fun i j e e' row row' he => by simp at he⟩) (fun k' hk' he => by subst hk'; rw [hat] at he; cases he) (fun k' y hk' hyy => by
      subst hk'; rw [hget] at hyy; cases hyy; exact fun _ _ e => by cases e)
  refine ⟨_, _, r2, ⟨fun i hi => updM_ne _ (by have := h1.len; omega), fun i _ hk => ⟨obOf_app _ hk, fun _ e => e⟩⟩, r1, ⟨fun t d ht => ?_, h1.er.nt, h1.er.dfs.mono (fun _ _ _ e => e) r3 (fun j hj => ⟨obOf_app _ hj, fun _ e => e⟩)⟩, by have := h1.len; simp; omega⟩
  obtain ⟨v, v1, v2⟩ := h1.er.env t d ht
  exact ⟨v, v1, v2.mono (fun _ _ _ e => e) r3⟩

/-- A row that a cell of another row names is put away at the place j. -/
theorem gs_grPut (kg k k' j i f : Nat) {sz isz : Nat} {es row : List D} {d : D} {ents : List Ent} (d' : Value → D) (hg : nthB s.H kg = some (.ob (.gr isz ents))) (hk : nthB s.H k = some (.elo sz es)) (hk' : nthB s.H k' = some (.els isz row)) (hnm : Nm s k)
    (hj : j ≤ ents.length) (hjo : ∀ e row', ents[j]? ≠ some (e, some row')) (hr0 : 0 < row.length) (hi : es[i]? = some d) (hf : d.cells[f]? = some (.o k' isz row.length)) (hd' : ∀ x, (d' x).cells = d.cells.set f (.v x))
    (h : ∀ x : Value, x.oneCell' = true → GS m K { s with H := ((s.H.set k' .dead).set kg (.ob (.gr isz (grPut ents j (x, some row))))).set k (.elo sz (es.set i (d' x))) }) : GS m K s := ⟨fun F μ act w h1 => by
  have hr := h1.hr
  have bk := blk_elo hk
  have bk' := blk_els hk'
  have bg : obOf s.H kg = some (.gr isz ents) := by rw [nthB_eq] at hg; rw [obOf_at hg]; rfl
  have lk := blk_lt bk; have lk' := blk_lt bk'; have lg := obOf_lt bg
  have ne1 : k ≠ k' := by rintro rfl; rw [hk] at hk'; cases hk'
  have ne2 : kg ≠ k := by rintro rfl; rw [ob_blk bg] at bk; cases bk
  have ne3 : kg ≠ k' := by rintro rfl; rw [ob_blk bg] at bk'; cases bk'
  have hfr : FrL row := hr.fr k' _ (by rw [← nthB_eq]; exact hk') _ _ rfl
  obtain ⟨o1, loc, o2, o3⟩ := hr.obj kg _ bg trivial
  rcases hr.row k sz es bk (hnm.ne h1) with ⟨-, e0⟩ | ⟨b, M, c, t, e1, e2, e3, e4, e5⟩
  · subst e0; simp at hi
  obtain ⟨z1, z2⟩ := e5 i _ hi
  obtain ⟨x, x1, x2, x3⟩ := z2 f _ hf
  obtain ⟨b0, m0, cap, q1, q2, q3, rfl⟩ : ∃ b0 m0 cap, μ k' = some (some (b0, m0)) ∧ row.length ≤ cap ∧ cap * isz ≤ m0 ∧ x = .slice (some ⟨b0, 0, none⟩) row.length cap := by
    generalize hn : row.length = n at x3
    cases x3 with
    | cl _ _ hc => cases hc
    | o _ _ _ b0 m0 cap g1 g2 g3 => exact ⟨b0, m0, cap, g1, by omega, g3, rfl⟩
    | oNil => omega
  rcases hr.row k' isz row bk' (by rw [q1]; simp) with ⟨e0, -⟩ | ⟨b1, m1, c1, t1, f1, f2, f3, f4, f5⟩
  · rw [q1] at e0; cases e0
  rw [q1] at f1; cases f1
  let μ' : Mu := ⟨μ.loc, fun a b => if a = kg then μ.inn kg b ∨ b = b0 else μ.inn a b⟩
  let H' : List Blk := ((s.H.set k' .dead).set kg (.ob (.gr isz (grPut ents j (.slice (some ⟨b0, 0, none⟩) row.length cap, some row))))).set k (.elo sz (es.set i (d' (.slice (some ⟨b0, 0, none⟩) row.length cap))))
  have hget : ∀ a, H'[a]? = if a = k then some (.elo sz (es.set i (d' (.slice (some ⟨b0, 0, none⟩) row.length cap)))) else if a = kg then some (.ob (.gr isz (grPut ents j (.slice (some ⟨b0, 0, none⟩) row.length cap, some row)))) else if a = k' then some .dead else s.H[a]? := fun a => by
    simp only [H', List.getElem?_set, List.length_set]
    by_cases a1 : a = k
    · subst a1; simp [lk]
    · have a1' : ¬ k = a := fun e => a1 e.symm
      by_cases a2 : a = kg
      · subst a2; simp [a1, a1', lg]
      · have a2' : ¬ kg = a := fun e => a2 e.symm
        by_cases a3 : a = k'
        · subst a3; simp [a1, a1', a2, a2', lk']
        · have a3' : ¬ k' = a := fun e => a3 e.symm
          simp only [if_neg a1, if_neg a1', if_neg a2, if_neg a2', if_neg a3, if_neg a3']
  have gk := hget k; rw [if_pos rfl] at gk
  have gg := hget kg; rw [if_neg ne2, if_pos rfl] at gg
  have gd := hget k'; rw [if_neg (Ne.symm ne1), if_neg (Ne.symm ne3), if_pos rfl] at gd
  have hlv : liveB H' k' = false := by rw [liveB_at gd]; rfl
  have hown : ∀ a, μ.inn kg a → a ≠ b0 := fun a ha e => by
    subst e
    exact ne3 (hr.inj kg k' a (live_ob bg) (live_blk bk') (.inr ha) (.inl ⟨_, q1⟩))
  have eC : ∀ a, ¬ (a = k ∨ a = kg ∨ a = k') → a ≠ k ∧ a ≠ kg ∧ a ≠ k' := fun a h => ⟨fun e => h (.inl e), fun e => h (.inr (.inl e)), fun e => h (.inr (.inr e))⟩
  have upm : ∀ a y, μ a = some y → μ' a = some y := fun _ _ e => e
  have r : HR F μ' H' w ∧ Post F μ s.H w F μ' H' w ∧ ∀ j y, μ j = some y → μ' j = some y := by
    refine hr_on (μ' := μ') (w' := w) (H' := H') (fun a => a = k ∨ a = kg ∨ a = k') hr (by simp [H']) (fun a ha => by
      obtain ⟨n1, n2, n3⟩ := eC a ha
      rw [hget, if_neg n1, if_neg n2, if_neg n3]) (fun _ _ => rfl) (fun a b ha => by
      obtain ⟨-, n2, -⟩ := eC a ha
      show (if a = kg then _ else _) ↔ _
      rw [if_neg n2]) (fun _ _ _ e => e) (Nat.le_refl _) rfl rfl rfl (fun _ _ _ => rfl) (fun a b ha hl hft => ?_) (fun a a' b ha ha' hl hl' h4 h5 => ?_) (fun a ha hle => ?_) (fun _ a sz1 es1 ha hb1 hne => ?_) (fun a y ha hb1 b => ?_) (fun hmono a y ha hy _ => ?_) (fun a ha he b => ?_) (fun a y ha hy => ?_)
    · -- foot
      rcases ha with rfl | rfl | rfl
      · refine .inl ⟨a, .inl rfl, live_blk bk, ?_⟩
        rcases hft with hm | hi
        · exact .inl hm
        · change (if a = kg then _ else _) at hi
          rw [if_neg (Ne.symm ne2)] at hi; exact .inr hi
      · rcases hft with hm | hi
        · exact .inl ⟨a, .inr (.inl rfl), live_ob bg, .inl hm⟩
        · change (if a = a then _ else _) at hi
          rw [if_pos rfl] at hi
          rcases hi with hi | rfl
          · exact .inl ⟨a, .inr (.inl rfl), live_ob bg, .inr hi⟩
          · exact .inl ⟨k', .inr (.inr rfl), live_blk bk', .inl ⟨_, q1⟩⟩
      · rw [hlv] at hl; cases hl
    · -- apart
      have key : ∀ a b, (a = k ∨ a = kg ∨ a = k') → liveB H' a = true → Foot μ' a b → (a = k ∧ Foot μ k b) ∨ (a = kg ∧ (Foot μ kg b ∨ b = b0)) := fun a b ha hl hft => by
        rcases ha with rfl | rfl | rfl
        · refine .inl ⟨rfl, ?_⟩
          rcases hft with hm | hi
          · exact .inl hm
          · change (if a = kg then _ else _) at hi
            rw [if_neg (Ne.symm ne2)] at hi; exact .inr hi
        · refine .inr ⟨rfl, ?_⟩
          rcases hft with hm | hi
          · exact .inl (.inl hm)
          · change (if a = a then _ else _) at hi
            rw [if_pos rfl] at hi
            exact hi.elim (fun h => .inl (.inr h)) .inr
        · rw [hlv] at hl; cases hl
      rcases key a b ha hl h4 with ⟨rfl, g1⟩ | ⟨rfl, g1⟩ <;> rcases key a' b ha' hl' h5 with ⟨rfl, g2⟩ | ⟨rfl, g2⟩
      · rfl
      · exfalso
        rcases g2 with g2 | rfl
        · exact ne2 (hr.inj a' a b (live_ob bg) (live_blk bk) g2 g1)
        · exact ne1 (hr.inj a k' b (live_blk bk) (live_blk bk') g1 (.inl ⟨_, q1⟩))
      · exfalso
        rcases g1 with g1 | rfl
        · exact ne2 (hr.inj a a' b (live_ob bg) (live_blk bk) g1 g2)
        · exact ne1 (hr.inj a' k' b (live_blk bk) (live_blk bk') g2 (.inl ⟨_, q1⟩))
      · rfl
    · simp [H'] at hle
      rcases ha with rfl | rfl | rfl <;> omega
    · rcases ha with rfl | rfl | rfl
      · rw [blkOf_at gk] at hb1
        simp only [Blk.es, Option.some.injEq, Prod.mk.injEq] at hb1
        obtain ⟨rfl, rfl⟩ := hb1
        refine .inr ⟨b, M, c, t, e1, e2, e3, by simpa using e4, fun j1 y1 hy1 => ?_⟩
        rw [List.getElem?_set] at hy1
        split at hy1
        · rename_i e; subst e
          split at hy1
          · cases hy1
            refine ⟨by rw [hd']; simpa using z1, fun r1 d1 hd1 => ?_⟩
            rw [hd', List.getElem?_set] at hd1
            split at hd1
            · rename_i e; subst e
              split at hd1
              · cases hd1; exact ⟨_, x1, x2, .cl _ _ (.v _ x2)⟩
              · cases hd1
            · obtain ⟨v, v1, v2, v3⟩ := z2 r1 d1 hd1
              exact ⟨v, v1, v2, v3.mono (fun _ _ _ e => e) upm⟩
          · cases hy1
        · obtain ⟨y2, y3⟩ := e5 j1 y1 hy1
          exact ⟨y2, fun r1 d1 hd1 => let ⟨v, v1, v2, v3⟩ := y3 r1 d1 hd1; ⟨v, v1, v2, v3.mono (fun _ _ _ e => e) upm⟩⟩
      · rw [blkOf_at gg] at hb1; cases hb1
      · rw [blkOf_at gd] at hb1; cases hb1
    · rcases ha with rfl | rfl | rfl
      · show ¬ (if a = kg then _ else _)
        rw [if_neg (Ne.symm ne2)]; exact hr.plain a _ bk b
      · rw [blkOf_at gg] at hb1; cases hb1
      · rw [blkOf_at gd] at hb1; cases hb1
    · rcases ha with rfl | rfl | rfl
      · rw [obOf_at gk] at hy; cases hy
      · rw [obOf_at gg] at hy; cases hy
        refine ⟨o1, fun n => if n = j then b0 else loc n, fun n e row1 he => ?_, fun n n' e e' row1 row2 he he' hh => ?_⟩
        · rw [grPut_get _ hj] at he
          split at he
          · rename_i en
            cases he
            refine ⟨c1, t1, cap, by simp only [if_pos en], q2, by rw [f3]; exact q3, by simp only [if_pos en]; exact f2, f5.mono (fun _ _ _ e => e) upm, hfr, ?_⟩
            show (if a = a then _ else _)
            rw [if_pos rfl]; exact .inr (by simp only [if_pos en])
          · rename_i en
            obtain ⟨c2, t2, cap2, g1, g2, g3, g4, g5, g6, g7⟩ := o2 n e row1 he
            refine ⟨c2, t2, cap2, by simp only [if_neg en]; exact g1, g2, g3, by simp only [if_neg en]; exact g4, g5.mono (fun _ _ _ e => e) upm, g6, ?_⟩
            show (if a = a then _ else _)
            rw [if_pos rfl]; simp only [if_neg en]; exact .inl g7
        · rw [grPut_get _ hj] at he he'
          by_cases n1 : n = j <;> by_cases n2 : n' = j
          · omega
          · exfalso
            rw [if_neg n2] at he'
            simp only [if_pos n1, if_neg n2] at hh
            obtain ⟨_, _, _, _, _, _, _, _, _, g7⟩ := o2 n' _ _ he'
            exact hown _ g7 hh.symm
          · exfalso
            rw [if_neg n1] at he
            simp only [if_neg n1, if_pos n2] at hh
            obtain ⟨_, _, _, _, _, _, _, _, _, g7⟩ := o2 n _ _ he
            exact hown _ g7 hh
          · rw [if_neg n1] at he; rw [if_neg n2] at he'
            simp only [if_neg n1, if_neg n2] at hh
            exact o3 n n' _ _ _ _ he he' hh
      · rw [obOf_at gd] at hy; cases hy
    · rcases ha with rfl | rfl | rfl
      · exact absurd (show μ a = none from he) (hnm.ne h1)
      · change μ a = none at he; rw [o1] at he; cases he
      · change μ a = none at he; rw [q1] at he; cases he
    · rcases ha with rfl | rfl | rfl
      · rw [gk] at hy; cases hy; exact fun _ _ e => by cases e
      · rw [gg] at hy; cases hy; exact fun _ _ e => by cases e
      · rw [gd] at hy; cases hy; exact fun _ _ e => by cases e
  obtain ⟨r1, r2, r3⟩ := r
  have hob : ∀ a, obOf s.H a = some .mk → obOf H' a = some .mk ∧ ∀ b, μ.inn a b → μ'.inn a b := fun a ha => by
    have n1 : a ≠ k := by rintro rfl; rw [ob_blk ha] at bk; cases bk
    have n2 : a ≠ kg := by rintro rfl; rw [ha] at bg; cases bg
    have n3 : a ≠ k' := by rintro rfl; rw [ob_blk ha] at bk'; cases bk'
    refine ⟨?_, fun b hb => ?_⟩
    · unfold obOf at ha ⊢; rw [hget, if_neg n1, if_neg n2, if_neg n3]; exact ha
    · show (if a = kg then _ else _)
      rw [if_neg n2]; exact hb
  have rl : RL m F μ' { s with H := H' } act w := ⟨r1, ⟨fun t d ht => let ⟨v, v1, v2⟩ := h1.er.env t d ht; ⟨v, v1, v2.mono (fun _ _ _ e => e) r3⟩, h1.er.nt, h1.er.dfs.mono (fun _ _ _ e => e) r3 (fun a ha => hob a ha)⟩, by simpa [H'] using h1.len⟩
  obtain ⟨F2, μ2, s2, k1, k2, k3, k4, k5⟩ := (h _ x2).out F μ' act w rl
  exact ⟨F2, μ2, s2, r2.trans k1, Kp.trans (H := s.H) (H' := H') (μ := μ) (μ' := μ') ⟨fun _ _ => rfl, fun a _ ha => hob a ha⟩ k2, k3, fun d v hd hv => k4 d v hd (hv.mono (fun _ _ _ e => e) r3), k5⟩⟩
end
end Go.Abs

/-! A59 -/
namespace Go.Abs
open Go
section
variable {P : Program} {T : TT} {r : Option Nat} {m : Nat} {Q : AX → St → Prop} {F : Fz} {μ : Mu} {w : World} {K : St → Prop} {s : St}

/-- The row that was put away at the place j is taken out. -/
theorem gs_grTake (kg k j i f : Nat) {sz isz : Nat} {es row : List D} {d : D} {x : Value} {ents : List Ent} (d' : D) (hg : nthB s.H kg = some (.ob (.gr isz ents))) (hk : nthB s.H k = some (.elo sz es)) (hj : ents[j]? = some (x, some row))
    (hi : es[i]? = some d) (hf : d.cells[f]? = some (.v x)) (hd' : d'.cells = d.cells.set f (.o s.H.length isz row.length))
    (h : GS m K { s with H := ((s.H.set kg (.ob (.gr isz (ents.set j (x, none))))).set k (.elo sz (es.set i d'))) ++ [.els isz row] }) : GS m K s := ⟨fun F μ act w h1 => by
  have hr := h1.hr
  have bk := blk_elo hk
  have bg : obOf s.H kg = some (.gr isz ents) := by rw [nthB_eq] at hg; rw [obOf_at hg]; rfl
  have lk := blk_lt bk; have lg := obOf_lt bg
  have ne2 : kg ≠ k := by rintro rfl; rw [ob_blk bg] at bk; cases bk
  obtain ⟨o1, loc, o2, o3⟩ := hr.obj kg _ bg trivial
  obtain ⟨c0, t0, cap, p1, p2, p3, p4, p5, p6, p7⟩ := o2 j x row hj
  obtain ⟨L, hL⟩ : ∃ L, L = s.H.length := ⟨_, rfl⟩
  have nk : k ≠ L := by omega
  have ng : kg ≠ L := by omega
  have hLn : μ L = none := hr.dom _ (by omega)
  let μ' : Mu := ⟨fun a => if a = L then some (some (loc j, c0.size)) else μ a, fun a b => if a = kg then μ.inn kg b ∧ b ≠ loc j else μ.inn a b⟩
  have m1 : ∀ a, a ≠ L → μ' a = μ a := fun a ha => by show (if a = L then _ else _) = _; rw [if_neg ha]
  have m2 : μ' L = some (some (loc j, c0.size)) := by show (if L = L then _ else _) = _; rw [if_pos rfl]
  have m3 : ∀ a b, a ≠ kg → (μ'.inn a b ↔ μ.inn a b) := fun a b ha => by show (if a = kg then _ else _) ↔ _; rw [if_neg ha]
  have m4 : ∀ b, μ'.inn kg b ↔ (μ.inn kg b ∧ b ≠ loc j) := fun b => by show (if kg = kg then _ else _) ↔ _; rw [if_pos rfl]
  obtain ⟨H', hH'⟩ : ∃ H' : List Blk, H' = ((s.H.set kg (.ob (.gr isz (ents.set j (x, none))))).set k (.elo sz (es.set i d'))) ++ [.els isz row] := ⟨_, rfl⟩
  have hlen : H'.length = L + 1 := by rw [hH', hL]; simp
  have hget : ∀ a, H'[a]? = if a = k then some (.elo sz (es.set i d')) else if a = kg then some (.ob (.gr isz (ents.set j (x, none)))) else if a = L then some (.els isz row) else s.H[a]? := fun a => by
    rw [hH']
    by_cases hlt : a < s.H.length
    · rw [List.getElem?_append_left (by simpa using hlt)]
      simp only [List.getElem?_set, List.length_set]
      by_cases a1 : a = k
      · subst a1; simp [lk]
      · have a1' : ¬ k = a := fun e => a1 e.symm
        by_cases a2 : a = kg
        · subst a2; simp [a1, a1', lg]
        · have a2' : ¬ kg = a := fun e => a2 e.symm
          have a3 : a ≠ L := by omega
          simp only [if_neg a1, if_neg a1', if_neg a2, if_neg a2', if_neg a3]
    · have a1 : a ≠ k := by omega
      have a2 : a ≠ kg := by omega
      rw [if_neg a1, if_neg a2, List.getElem?_append_right (by simp; omega)]
      by_cases a3 : a = L
      · subst a3; rw [if_pos rfl, hL]; simp
      · rw [if_neg a3, List.getElem?_eq_none (by simp; omega), List.getElem?_eq_none (by omega)]
  have gk := hget k; rw [if_pos rfl] at gk
  have gg := hget kg; rw [if_neg ne2, if_pos rfl] at gg
  have gd := hget L; rw [if_neg (Ne.symm nk), if_neg (Ne.symm ng), if_pos rfl] at gd
  have eC : ∀ a, ¬ (a = k ∨ a = kg ∨ a = L) → a ≠ k ∧ a ≠ kg ∧ a ≠ L := fun a h => ⟨fun e => h (.inl e), fun e => h (.inr (.inl e)), fun e => h (.inr (.inr e))⟩
  have upm : ∀ a y, μ a = some y → μ' a = some y := fun a y e => by
    by_cases ha : a = L
    · subst ha; rw [hLn] at e; cases e
    · rw [m1 a ha]; exact e
  have fk : ∀ b, Foot μ' k b → Foot μ k b := fun b hb => by
    rcases hb with ⟨M, hM⟩ | hb
    · rw [m1 k nk] at hM; exact .inl ⟨M, hM⟩
    · exact .inr ((m3 k b (Ne.symm ne2)).1 hb)
  have fg : ∀ b, Foot μ' kg b → μ.inn kg b ∧ b ≠ loc j := fun b hb => by
    rcases hb with ⟨M, hM⟩ | hb
    · rw [m1 kg ng, o1] at hM; cases hM
    · exact (m4 b).1 hb
  have fL : ∀ b, Foot μ' L b → b = loc j := fun b hb => by
    rcases hb with ⟨M, hM⟩ | hb
    · rw [m2] at hM; cases hM; rfl
    · exact absurd ((m3 L b (Ne.symm ng)).1 hb) (hr.non _ hLn b)
  have r : HR F μ' H' w ∧ Post F μ s.H w F μ' H' w ∧ ∀ j y, μ j = some y → μ' j = some y := by
    refine hr_on (μ' := μ') (w' := w) (H' := H') (fun a => a = k ∨ a = kg ∨ a = L) hr (by omega) (fun a ha => by
      obtain ⟨n1, n2, n3⟩ := eC a ha
      rw [hget, if_neg n1, if_neg n2, if_neg n3]) (fun a ha => m1 a (eC a ha).2.2) (fun a b ha => m3 a b (eC a ha).2.1) (fun a _ y e => upm a y e) (Nat.le_refl _) rfl rfl rfl (fun _ _ _ => rfl) (fun a b ha hl hft => ?_) (fun a a' b ha ha' hl hl' h4 h5 => ?_) (fun a ha hle => ?_) (fun _ a sz1 es1 ha hb1 hne => ?_) (fun a y ha hb1 b => ?_) (fun hmono a y ha hy _ => ?_) (fun a ha he b => ?_) (fun a y ha hy => ?_)
    · rcases ha with rfl | rfl | rfl
      · exact .inl ⟨a, .inl rfl, live_blk bk, fk b hft⟩
      · exact .inl ⟨a, .inr (.inl rfl), live_ob bg, .inr (fg b hft).1⟩
      · exact .inl ⟨kg, .inr (.inl rfl), live_ob bg, .inr (by rw [fL b hft]; exact p7)⟩
    · rcases ha with rfl | rfl | rfl <;> rcases ha' with rfl | rfl | rfl
      · rfl
      · exact (ne2 (hr.inj a' a b (live_ob bg) (live_blk bk) (.inr (fg b h5).1) (fk b h4))).elim
      · exfalso
        have e := fL b h5; subst e
        exact ne2 (hr.inj kg a _ (live_ob bg) (live_blk bk) (.inr p7) (fk _ h4))
      · exact (ne2 (hr.inj a a' b (live_ob bg) (live_blk bk) (.inr (fg b h4).1) (fk b h5))).elim
      · rfl
      · exact ((fg b h4).2 (fL b h5)).elim
      · exfalso
        have e := fL b h4; subst e
        exact ne2 (hr.inj kg a' _ (live_ob bg) (live_blk bk) (.inr p7) (fk _ h5))
      · exact ((fg b h5).2 (fL b h4)).elim
      · rfl
    · rcases ha with rfl | rfl | rfl <;> omega
    · rcases ha with rfl | rfl | rfl
      · rw [blkOf_at gk] at hb1
        simp only [Blk.es, Option.some.injEq, Prod.mk.injEq] at hb1
        obtain ⟨rfl, rfl⟩ := hb1
        rw [m1 a nk] at hne ⊢
        rcases hr.row a sz es bk hne with ⟨-, e0⟩ | ⟨b, M, c, t, e1, e2, e3, e4, e5⟩
        · subst e0; simp at hi
        refine .inr ⟨b, M, c, t, e1, e2, e3, by simpa using e4, fun j1 y1 hy1 => ?_⟩
        rw [List.getElem?_set] at hy1
        split at hy1
        · rename_i e; subst e
          split at hy1
          · cases hy1
            obtain ⟨z1, z2⟩ := e5 i _ hi
            refine ⟨by rw [hd']; simpa using z1, fun r1 d1 hd1 => ?_⟩
            rw [hd', List.getElem?_set] at hd1
            split at hd1
            · rename_i e; subst e
              split at hd1
              · cases hd1
                obtain ⟨v, v1, v2, v3⟩ := z2 f _ hf
                refine ⟨v, v1, v2, ?_⟩
                rw [v3.v_inv, p1, ← hL]
                exact .o _ _ _ _ _ _ m2 p2 p3
              · cases hd1
            · obtain ⟨v, v1, v2, v3⟩ := z2 r1 d1 hd1
              exact ⟨v, v1, v2, v3.mono (fun _ _ _ e => e) upm⟩
          · cases hy1
        · obtain ⟨y2, y3⟩ := e5 j1 y1 hy1
          exact ⟨y2, fun r1 d1 hd1 => let ⟨v, v1, v2, v3⟩ := y3 r1 d1 hd1; ⟨v, v1, v2, v3.mono (fun _ _ _ e => e) upm⟩⟩
      · rw [blkOf_at gg] at hb1; cases hb1
      · rw [blkOf_at gd] at hb1; cases hb1
        exact .inr ⟨_, _, c0, t0, m2, p4, rfl, Nat.le_trans (Nat.mul_le_mul_right _ p2) p3, p5.mono (fun _ _ _ e => e) upm⟩
    · rcases ha with rfl | rfl | rfl
      · rw [m3 a b (Ne.symm ne2)]; exact hr.plain a _ bk b
      · rw [blkOf_at gg] at hb1; cases hb1
      · rw [m3 a b (Ne.symm ng)]; exact hr.non _ hLn b
    · rcases ha with rfl | rfl | rfl
      · rw [obOf_at gk] at hy; cases hy
      · rw [obOf_at gg] at hy; cases hy
        have hent : ∀ (n : Nat) (e : Value) (row1 : List D), (ents.set j (x, none))[n]? = some (e, some row1) → n ≠ j ∧ ents[n]? = some (e, some row1) := fun n e row1 he => by
          rw [List.getElem?_set] at he
          split at he
          · split at he <;> cases he
          · rename_i hne; exact ⟨fun e => hne e.symm, he⟩
        refine ⟨by rw [m1 a ng]; exact o1, loc, fun n e row1 he => ?_, fun n n' e e' row1 row2 he he' hh => o3 n n' _ _ _ _ (hent _ _ _ he).2 (hent _ _ _ he').2 hh⟩
        obtain ⟨hn, he⟩ := hent n e row1 he
        obtain ⟨c2, t2, cap2, g1, g2, g3, g4, g5, g6, g7⟩ := o2 n e row1 he
        exact ⟨c2, t2, cap2, g1, g2, g3, g4, g5.mono (fun _ _ _ e => e) upm, g6, (m4 _).2 ⟨g7, fun e0 => hn (o3 n j _ _ _ _ he hj e0)⟩⟩
      · rw [obOf_at gd] at hy; cases hy
    · rcases ha with rfl | rfl | rfl
      · rw [m1 a nk] at he
        rw [m3 a b (Ne.symm ne2)]; exact hr.non _ he b
      · rw [m1 a ng, o1] at he; cases he
      · rw [m2] at he; cases he
    · rcases ha with rfl | rfl | rfl
      · rw [gk] at hy; cases hy; exact fun _ _ e => by cases e
      · rw [gg] at hy; cases hy; exact fun _ _ e => by cases e
      · rw [gd] at hy; cases hy; exact fun _ _ e => by cases e; exact p6
  obtain ⟨r1, r2, r3⟩ := r
  have hob : ∀ a, obOf s.H a = some .mk → obOf H' a = some .mk ∧ ∀ b, μ.inn a b → μ'.inn a b := fun a ha => by
    have n1 : a ≠ k := by rintro rfl; rw [ob_blk ha] at bk; cases bk
    have n2 : a ≠ kg := by rintro rfl; rw [ha] at bg; cases bg
    have n3 : a ≠ L := by have := obOf_lt ha; omega
    refine ⟨?_, fun b hb => (m3 a b n2).2 hb⟩
    unfold obOf at ha ⊢; rw [hget, if_neg n1, if_neg n2, if_neg n3]; exact ha
  have rl : RL m F μ' { s with H := H' } act w := ⟨r1, ⟨fun t d ht => let ⟨v, v1, v2⟩ := h1.er.env t d ht; ⟨v, v1, v2.mono (fun _ _ _ e => e) r3⟩, h1.er.nt, h1.er.dfs.mono (fun _ _ _ e => e) r3 (fun a ha => hob a ha)⟩, by have := h1.len; show m ≤ H'.length; omega⟩
  subst hH'
  obtain ⟨F2, μ2, s2, k1, k2, k3, k4, k5⟩ := h.out F μ' act w rl
  exact ⟨F2, μ2, s2, r2.trans k1, Kp.trans (H := s.H) (μ := μ) (μ' := μ') ⟨fun a ha => m1 a (by have := h1.len; omega), fun a _ ha => hob a ha⟩ k2, k3, fun d v hd hv => k4 d v hd (hv.mono (fun _ _ _ e => e) r3), k5⟩⟩

/-- A nil slice in a row, as an own row. -/
theorem virtE_rl {a : Act} {k i f sz isz : Nat} {es : List D} {d d' : D} (hk : nthB s.H k = some (.elo sz es)) (hi : es[i]? = some d) (hf : d.cells[f]? = some (.v (.slice none 0 0))) (hd : d'.cells = d.cells.set f (.o s.H.length isz 0)) (h : RL m F μ s a w) :
    ∃ μ', RL m F μ' { s with H := s.H.set k (.elo sz (es.set i d')) ++ [.els isz []] } a w ∧ Post F μ s.H w F μ' (s.H.set k (.elo sz (es.set i d')) ++ [.els isz []]) w ∧ Kp m μ s.H μ' (s.H.set k (.elo sz (es.set i d')) ++ [.els isz []]) := by
  obtain ⟨q1, q2, q3⟩ := hr_virt h.hr (sz := isz) (h.hr.dom _ (Nat.le_refl _)) (Nat.le_refl _)
  rw [setB_new] at q1 q2
  have hkl : k < s.H.length := by rw [nthB_eq] at hk; exact (List.getElem?_eq_some_iff.1 hk).1
  have hk' : nthB (s.H ++ [Blk.els isz []]) k = some (.elo sz es) := nthB_app hk
  have hb := blk_elo hk'
  obtain ⟨X, hX⟩ : ∃ X, X = Blk.elo sz (es.set i d') := ⟨_, rfl⟩
  have hset : ∀ j, ((s.H ++ [Blk.els isz []]).set k X)[j]? = if j = k then some X else (s.H ++ [Blk.els isz []])[j]? := fun j => by
    have := setB_get (H := s.H ++ [Blk.els isz []]) X (k := k) (by simp; omega) j
    rwa [setB, if_pos (by simp; omega)] at this
  have hlen : d'.cells.length = d.cells.length := by rw [hd]; simp
  obtain ⟨r1, r2, -⟩ := hr_on (μ' := updM μ s.H.length none) (w' := w) (H' := (s.H ++ [Blk.els isz []]).set k X) (fun j => j = k) q1 (by simp) (fun j hj => by rw [hset, if_neg hj]) (fun j _ => rfl) (fun j b _ => Iff.rfl) (fun _ _ _ h => h) (Nat.le_refl _) rfl rfl rfl
    (fun b' hb' hn => rfl) (fun k' b' hk' _ hf => .inl ⟨k, rfl, live_blk hb, by subst hk'; exact hf⟩) (fun k1 k2 b h1 h2 _ _ _ _ => h1.trans h2.symm)
    (fun k' hk' hle' => by subst hk'; simp at hle'; omega) (fun _ k' sz1 es1 hk' hb1 hne => by
      subst hk'
      rw [blkOf_at (x := X) (by rw [hset, if_pos rfl]), hX] at hb1
      simp only [Blk.es, Option.some.injEq, Prod.mk.injEq] at hb1
      obtain ⟨rfl, rfl⟩ := hb1
      rcases q1.row k' _ _ hb hne with ⟨e1, e2⟩ | ⟨b, m, c, t, e1, e2, e3, e4, e5⟩
      · subst e2; simp at hi
      · refine .inr ⟨b, m, c, t, e1, e2, e3, by simpa using e4, fun j e he => ?_⟩
        rw [List.getElem?_set] at he
        split at he
        · rename_i e0; subst e0
          split at he
          · cases he
            obtain ⟨z1, z2⟩ := e5 i _ hi
            refine ⟨by rw [hlen]; exact z1, fun r x hx => ?_⟩
            rw [hd, List.getElem?_set] at hx
            split at hx
            · rename_i e0; subst e0
              split at hx
              · cases hx
                obtain ⟨v, v1, v2, v3⟩ := z2 f _ hf
                refine ⟨v, v1, v2, ?_⟩
                rw [v3.v_inv]; exact .oNil _ _ none (updM_at _ _ _)
              · cases hx
            · exact z2 r _ hx
          · cases he
        · exact e5 j e he) (fun k' y hk' _ b => by subst hk'; exact q1.plain k' _ hb b) (fun _ k' y hk' hy _ => by subst hk'; rw [obOf_at (x := X) (by rw [hset, if_pos rfl]), hX] at hy; cases hy) (fun k' hk' he => by subst hk'; exact q1.non _ he) (fun k' y hk' hy => by
      subst hk'; rw [hset, if_pos rfl, hX] at hy; cases hy; exact fun _ _ e => by cases e)
  have hs : (s.H ++ [Blk.els isz []]).set k X = s.H.set k X ++ [.els isz []] := by rw [List.set_append_left _ _ hkl]
  have hob : ∀ j y, obOf s.H j = some y → obOf ((s.H ++ [Blk.els isz []]).set k X) j = some y := fun j y hj => obOf_set _ hb (obOf_app _ hj)
  rw [hs] at r1 r2 hob
  subst hX
  refine ⟨_, ⟨r1, ⟨fun n x hn => ?_, h.er.nt, h.er.dfs.mono (fun _ _ _ e => e) q3 (fun j hj => ⟨hob j _ hj, fun _ e => e⟩)⟩, by have := h.len; simp; omega⟩, q2.trans r2, ⟨fun i hi => by rw [updM_ne _ (by have := h.len; omega)], fun i _ hk => ⟨hob i _ hk, fun _ e => e⟩⟩⟩
  obtain ⟨v, h1, h2⟩ := h.er.env n x hn
  exact ⟨v, h1, h2.mono (fun _ _ _ e => e) q3⟩

theorem gs_virtE (k i f : Nat) {sz : Nat} (isz : Nat) {es : List D} {d : D} (d' : D) (hk : nthB s.H k = some (.elo sz es)) (hi : es[i]? = some d) (hf : d.cells[f]? = some (.v (.slice none 0 0))) (hd : d'.cells = d.cells.set f (.o s.H.length isz 0))
    (h : GS m K { s with H := s.H.set k (.elo sz (es.set i d')) ++ [.els isz []] }) : GS m K s :=
  gs_trans (fun F μ act w h1 => let ⟨μ', g1, g2, g3⟩ := virtE_rl hk hi hf hd h1; ⟨F, μ', g2, g3, g1⟩) h

/-- Ghost steps, so many. -/
theorem gs_iter (mk : Nat → St) (n : Nat) (step : ∀ i, i < n → ∀ K, GS m K (mk (i + 1)) → GS m K (mk i)) (h : GS m K (mk n)) : GS m K (mk 0) := by
  induction n generalizing K with
  | zero => exact h
  | succ n ih => exact ih (fun i hi => step i (by omega)) (step n (by omega) K h)
end
end Go.Abs

/-! A60 -/
namespace Go.Abs
open Go
section
variable {P : Program} {T : TT} {r : Option Nat} {m : Nat}

/-- Both ways of a guard, and what is behind both, shown once. -/
theorem bm2 {S : Stop} {α : Type} {b : Bool} {X Y : Prop} {c : Code} {Q : AX → St → Prop} (mk : α → St) (Pr : α → Prop) (h1 : (∀ x, Pr x → S.code c Q (mk x)) → b = true → X) (h2 : (∀ x, Pr x → S.code c Q (mk x)) → b = false → Y) (rest : ∀ x, Pr x → S.code c Q (mk x)) :
    (match (generalizing := false) b with | true => X | false => Y) := by
  cases b
  · exact h2 rest rfl
  · exact h1 rest rfl

/-- To where they meet. -/
theorem join_at {S : Stop} (hS : S = theStop P r m) {α : Type} {Pr : α → Prop} {mk : α → St} {c : Code} {Q : AX → St → Prop} {s : St} (rest : ∀ x, Pr x → S.code c Q (mk x)) (x : α) (hx : Pr x) (h : GS m (fun s' => s' = mk x) s) : S.code c Q s :=
  code_gs hS (gs_mono h fun s' e => by rw [e]; exact rest x hx)

/-- A guarded call in a drawn region, whose guard itself was passed by. -/
theorem draw_callN {A : Ar} (hA : A = ar) {ops : Array Oper} {Q : AX → St → Prop} {s : St} {Dk : List Nat → List (Nat × PK) → St → Prop} (hD : Dk = DrawA P T r m ops Q) {i : Nat} {L : List Nat} {pend : List (Nat × PK)} {o oj : Oper} {j t : Nat} {want : Bool}
    (hoi : ops[i]? = some o) (hd : dstOk s.nt o.dst = true) (hlk : looksB ops o pend = true) (hw : writesB ops o (dropP o pend) = true) (hrd : readyB ops i L = true) (hg : o.guard = some (j, want)) (hj : ops[j]? = some oj) (hjd : oj.dst = some t) (hb : getE (s.only (o.looksAt ops)).env t = some (.tup []))
    (hk : pinsA A T ops (s.step o.dst (.tup []) s.H s.dfs) (dropP o pend) ∧ DrawA P T r m ops Q L (dropP o pend) (s.step o.dst (.tup []) s.H s.dfs)) : Dk (i :: L) pend s := by
  subst hA; subst hD
  refine drawA_eff hoi hd hlk hw hrd ?_
  simp only [guardA, hg, hj, hjd, hb]
  exact hk

/-- A row, by another word for it. -/
theorem gs_elsE {K : St → Prop} {s : St} (k : Nat) {sz : Nat} {es es' : List D} (hk : nthB s.H k = some (.els sz es)) (e : es = es') (h : GS m K { s with H := s.H.set k (.els sz es') }) : GS m K s := by
  subst e
  have e1 : s.H.set k (.els sz es) = s.H := List.ext_getElem? fun i => by
    rw [List.getElem?_set]
    split
    · rename_i e; subst e
      split
      · exact (((nthB_eq s.H k).symm.trans hk)).symm
      · rw [List.getElem?_eq_none (by omega)]
    · rfl
  rw [e1] at h
  exact h
end
end Go.Abs

/- Part MachH of the proofs about the benches of the accordion maker: see the last text of the claim for what is proved. -/
import Derived.Test.YtmloogdalecilaaDoorMachE
import Derived.Test.YtmloogdalecilaaDoorMachF
import Derived.Test.YtmloogdalecilaaDoorMachG
set_option linter.unusedVariables false
set_option linter.unusedSimpArgs false
set_option linter.unnecessarySimpa false
set_option linter.constructorNameAsVariable false

/-! A66 -/
namespace Go.Abs
open Go

section
variable {P : Program} {T : TT} {r : Option Nat} {m : Nat} {ops : Array Oper} {Q : AX → St → Prop} {s : St}

theorem draw_callFG {A : Ar} (hA : A = ar) {Dk : List Nat → List (Nat × PK) → St → Prop} (hD : Dk = DrawA P T r m ops Q) (kk : List Nat) {i : Nat} {L : List Nat} {pend : List (Nat × PK)} {o oj : Oper} {j t : Nat} (want : Bool)
    (hoi : ops[i]? = some o) (hd : dstOk s.nt o.dst = true) (hlk : looksB ops o pend = true) (hw : writesB ops o (dropP o pend) = true) (hrd : readyB ops i L = true) (hg : o.guard = some (j, want)) (hj : ops[j]? = some oj) (hjd : oj.dst = some t) (hb : getE (s.only (o.looksAt ops)).env t = some (.v (.bool want)))
    (h : ∀ CG, CG = (fun s' => CallG P o (fun d H' ds => AftG P T r m ops Q L (dropP o pend) (s.step o.dst d H' ds)) s') → frzS A kk (s.only (o.looksAt ops)) CG) : Dk (i :: L) pend s := by
  subst hD
  refine drawA_eff hoi hd hlk hw hrd ?_
  have h1 := h _ rfl
  have run : OpA P r o (s.only (o.looksAt ops)) (fun d H' ds => aftA ar T ops (fun p s => DrawA P T r m ops Q L p s) (dropP o pend) (s.step o.dst d H' ds)) (fun d H' => ∀ e, Q (.pan d) { env := e, H := H', nt := s.nt, dfs := s.dfs }) := by
    refine opA_frz hA kk ?_
    subst hA
    have mono : ∀ {K1 K2 : St → Prop}, (∀ s, K1 s → K2 s) → frzS ar kk (s.only (o.looksAt ops)) K1 → frzS ar kk (s.only (o.looksAt ops)) K2 := fun {K1 K2} hk hf => frzS_mono hk hf
    refine mono (fun s' hs' => ?_) h1
    exact (callG_op hs' _).mono (fun d H' ds hk => ⟨hk.pins, hk.go⟩) (fun _ _ hx => hx)
  simp only [guardA, hg, hj, hjd, hb]
  cases want <;> simp only [setE_self hb] <;> exact run
end
end Go.Abs

/-! A67 -/
namespace Go.Abs
open Go

section
variable {P : Program} {T : TT} {r : Option Nat} {m : Nat} {Q : AX → St → Prop} {K : D → List Blk → List AD → Prop} {X : D → List Blk → Prop} {s : St} {o : Oper}

/-- A slice expression of a slice that is known. -/
theorem opA_sliceV (hT : TOK P T) {t el : TypeId} {x : Operand} {lo hi : Option Operand} {e e2 : TE} {b n cap : Nat} {l hh : Int} (ho : o.op = .slice t x lo hi none) (hx : evo s.env x = some (.v (.slice (some ⟨b, 0, none⟩) n cap)))
    (he : tget T t = some e) (hel : e.el = some (none, el)) (he2 : tget T el = some e2) (hl : bnd s lo 0 l) (hhi : bnd s hi n hh) (h0 : 0 ≤ l) (h1 : l ≤ hh) (h2 : hh ≤ cap)
    (h : K (.v (.slice (if cap = l.toNat then some ⟨b, 0, none⟩ else some ⟨b, l.toNat * e2.size, none⟩) (hh.toNat - l.toNat) (cap - l.toNat))) s.H s.dfs) : OpA P r o s K X := by
  refine ⟨fun F μ a w hr her next Q hn _ => ?_⟩
  have hv := (her.evo hx).v_inv
  have hu := tt_slice hT he hel
  have hs := tt_size (w := w) hT he2
  have hb := run_bounds (P := P) (w := w) her true n cap lo hi l hh hl hhi h0 h1 h2
  have hrun : (o.semAt r a.eval).run P w = .ok (.value (.slice (if cap = l.toNat then some ⟨b, 0, none⟩ else some ⟨b, l.toNat * e2.size, none⟩) (hh.toNat - l.toNat) (cap - l.toNat))) w := by
    rw [Oper.semAt_eq r a.eval o (fun c e => by rw [ho] at e; cases e)]
    unfold execOp
    rw [ho]
    simp only [hv, Option.map_none]
    have hsl : (Instr.sliceAt t (.slice (some ⟨b, 0, none⟩) n cap) (lo.map a.eval) (hi.map a.eval) none).run P w = .ok (.slice (if cap = l.toNat then some ⟨b, 0, none⟩ else some ⟨b, l.toNat * e2.size, none⟩) (hh.toNat - l.toNat) (cap - l.toNat)) w := by
      unfold Instr.sliceAt
      rw [Sem.run_bind, run_underlying hu w]
      unfold Instr.slice
      simp only [Result.andThen_ok, Sem.run_bind, run_underlying hu w, hb, hs]
      have : (⟨b, 0, none⟩ : Addr).add (l.toNat * e2.size) = ⟨b, l.toNat * e2.size, none⟩ := by rw [add_lit]; simp
      simp only [Option.map_some, this]
      rfl
    simp only [Sem.run_bind, hsl, Result.andThen_ok, Sem.run_pure]
  rw [hrun, Oper.uponIn_value]
  exact hn F μ s.H w s.dfs _ _ _ (Stp.refl hr) her.dfs (.cl _ _ (.v _ (by split <;> rfl))) h
end

section
variable {P : Program} {F : Fz} {μ : Mu} {w : World} {m : Nat} {K : St → Prop} {s : St}

/-- A box, as a row of one element; and back. -/
theorem gs_boxElo (k : Nat) {d : D} (hk : nthB s.H k = some (.box d)) (h : GS m K { s with H := s.H.set k (.elo d.cells.length [d]) }) : GS m K s :=
  gs_trans (fun F μ act w h1 => let ⟨g1, g2, g3⟩ := rowW_rl (x := .elo d.cells.length [d]) (blk_box hk) rfl (fun _ _ e => by cases e) rfl (fun _ h => h) h1; ⟨F, μ, g2, g3, g1⟩) h
theorem gs_eloBox (k : Nat) {d : D} {n : Nat} (hn : n = d.cells.length) (hk : nthB s.H k = some (.elo n [d])) (h : GS m K { s with H := s.H.set k (.box d) }) : GS m K s :=
  gs_trans (fun F μ act w h1 => let ⟨g1, g2, g3⟩ := rowW_rl (x := .box d) (blk_elo hk) (by subst hn; rfl) (fun _ _ e => by cases e) rfl (fun _ h => h) h1; ⟨F, μ, g2, g3, g1⟩) h
end
end Go.Abs

/-! A68 -/
namespace Go.Abs
open Go

section
variable {P : Program} {T : TT} {r : Option Nat} {m : Nat} {Q : AX → St → Prop} {F : Fz} {μ : Mu} {w : World} {K : St → Prop} {s : St}

/-- A row that a cell of another row names is put away at the place j; the slice that names it is known then. -/
theorem gs_grPutN (kg k k' j i f : Nat) {sz isz : Nat} {es row : List D} {d : D} {ents : List Ent} (d' : Value → D) (hg : nthB s.H kg = some (.ob (.gr isz ents))) (hk : nthB s.H k = some (.elo sz es)) (hk' : nthB s.H k' = some (.els isz row)) (hne : ∀ (F : Fz) (μ : Mu) (act : Act) (w : World), RL m F μ s act w → μ k ≠ none)
    (hj : j ≤ ents.length) (hjo : ∀ e row', ents[j]? ≠ some (e, some row')) (hr0 : 0 < row.length) (hi : es[i]? = some d) (hf : d.cells[f]? = some (.o k' isz row.length)) (hd' : ∀ x, (d' x).cells = d.cells.set f (.v x))
    (h : ∀ b0 cap : Nat, row.length ≤ cap → GS m K { s with H := ((s.H.set k' .dead).set kg (.ob (.gr isz (grPut ents j (.slice (some ⟨b0, 0, none⟩) row.length cap, some row))))).set k (.elo sz (es.set i (d' (.slice (some ⟨b0, 0, none⟩) row.length cap)))) }) : GS m K s := ⟨fun F μ act w h1 => by
  have hr := h1.hr
  have bk := blk_elo hk
  have bk' := blk_els hk'
  have bg : obOf s.H kg = some (.gr isz ents) := by rw [nthB_eq] at hg; rw [obOf_at hg]; rfl
  have lk := blk_lt bk; have lk' := blk_lt bk'; have lg := obOf_lt bg
  have ne1 : k ≠ k' := by rintro rfl; rw [hk] at hk'; cases hk'
  have ne2 : kg ≠ k := by rintro rfl; rw [ob_blk bg] at bk; cases bk
  have ne3 : kg ≠ k' := by rintro rfl; rw [ob_blk bg] at bk'; cases bk'
  have hfr : FrL row := hr.fr k' _ (by rw [← nthB_eq]; exact hk') _ _ rfl
  obtain ⟨o1, loc, o2, o3⟩ := hr.obj kg _ bg trivial
  rcases hr.row k sz es bk (hne F μ act w h1) with ⟨-, e0⟩ | ⟨b, M, c, t, e1, e2, e3, e4, e5⟩
  · subst e0; simp at hi
  obtain ⟨z1, z2⟩ := e5 i _ hi
  obtain ⟨x, x1, x2, x3⟩ := z2 f _ hf
  obtain ⟨b0, m0, cap, q1, q2, q3, rfl⟩ : ∃ b0 m0 cap, μ k' = some (some (b0, m0)) ∧ row.length ≤ cap ∧ cap * isz ≤ m0 ∧ x = .slice (some ⟨b0, 0, none⟩) row.length cap := by
    generalize hn : row.length = n at x3
    cases x3 with
    | cl _ _ hc => cases hc
    | o _ _ _ b0 m0 cap g1 g2 g3 => exact ⟨b0, m0, cap, g1, by omega, g3, rfl⟩
    | oNil => omega
  rcases hr.row k' isz row bk' (by rw [q1]; simp) with ⟨e0, -⟩ | ⟨b1, m1, c1, t1, f1, f2, f3, f4, f5⟩
  · rw [q1] at e0; cases e0
  rw [q1] at f1; cases f1
  let μ' : Mu := ⟨μ.loc, fun a b => if a = kg then μ.inn kg b ∨ b = b0 else μ.inn a b⟩
  let H' : List Blk := ((s.H.set k' .dead).set kg (.ob (.gr isz (grPut ents j (.slice (some ⟨b0, 0, none⟩) row.length cap, some row))))).set k (.elo sz (es.set i (d' (.slice (some ⟨b0, 0, none⟩) row.length cap))))
  have hget : ∀ a, H'[a]? = if a = k then some (.elo sz (es.set i (d' (.slice (some ⟨b0, 0, none⟩) row.length cap)))) else if a = kg then some (.ob (.gr isz (grPut ents j (.slice (some ⟨b0, 0, none⟩) row.length cap, some row)))) else if a = k' then some .dead else s.H[a]? := fun a => by
    simp only [H', List.getElem?_set, List.length_set]
    by_cases a1 : a = k
    · subst a1; simp [lk]
    · have a1' : ¬ k = a := fun e => a1 e.symm
      by_cases a2 : a = kg
      · subst a2; simp [a1, a1', lg]
      · have a2' : ¬ kg = a := fun e => a2 e.symm
        by_cases a3 : a = k'
        · subst a3; simp [a1, a1', a2, a2', lk']
        · have a3' : ¬ k' = a := fun e => a3 e.symm
          simp only [if_neg a1, if_neg a1', if_neg a2, if_neg a2', if_neg a3, if_neg a3']
  have gk := hget k; rw [if_pos rfl] at gk
  have gg := hget kg; rw [if_neg ne2, if_pos rfl] at gg
  have gd := hget k'; rw [if_neg (Ne.symm ne1), if_neg (Ne.symm ne3), if_pos rfl] at gd
  have hlv : liveB H' k' = false := by rw [liveB_at gd]; rfl
  have hown : ∀ a, μ.inn kg a → a ≠ b0 := fun a ha e => by
    subst e
    exact ne3 (hr.inj kg k' a (live_ob bg) (live_blk bk') (.inr ha) (.inl ⟨_, q1⟩))
  have eC : ∀ a, ¬ (a = k ∨ a = kg ∨ a = k') → a ≠ k ∧ a ≠ kg ∧ a ≠ k' := fun a h => ⟨fun e => h (.inl e), fun e => h (.inr (.inl e)), fun e => h (.inr (.inr e))⟩
  have upm : ∀ a y, μ a = some y → μ' a = some y := fun _ _ e => e
  have r : HR F μ' H' w ∧ Post F μ s.H w F μ' H' w ∧ ∀ j y, μ j = some y → μ' j = some y := by
    refine hr_on (μ' := μ') (w' := w) (H' := H') (fun a => a = k ∨ a = kg ∨ a = k') hr (by simp [H']) (fun a ha => by
      obtain ⟨n1, n2, n3⟩ := eC a ha
      rw [hget, if_neg n1, if_neg n2, if_neg n3]) (fun _ _ => rfl) (fun a b ha => by
      obtain ⟨-, n2, -⟩ := eC a ha
      show (if a = kg then _ else _) ↔ _
      rw [if_neg n2]) (fun _ _ _ e => e) (Nat.le_refl _) rfl rfl rfl (fun _ _ _ => rfl) (fun a b ha hl hft => ?_) (fun a a' b ha ha' hl hl' h4 h5 => ?_) (fun a ha hle => ?_) (fun _ a sz1 es1 ha hb1 hne => ?_) (fun a y ha hb1 b => ?_) (fun hmono a y ha hy _ => ?_) (fun a ha he b => ?_) (fun a y ha hy => ?_)
    · -- foot
      rcases ha with rfl | rfl | rfl
      · refine .inl ⟨a, .inl rfl, live_blk bk, ?_⟩
        rcases hft with hm | hi
        · exact .inl hm
        · change (if a = kg then _ else _) at hi
          rw [if_neg (Ne.symm ne2)] at hi; exact .inr hi
      · rcases hft with hm | hi
        · exact .inl ⟨a, .inr (.inl rfl), live_ob bg, .inl hm⟩
        · change (if a = a then _ else _) at hi
          rw [if_pos rfl] at hi
          rcases hi with hi | rfl
          · exact .inl ⟨a, .inr (.inl rfl), live_ob bg, .inr hi⟩
          · exact .inl ⟨k', .inr (.inr rfl), live_blk bk', .inl ⟨_, q1⟩⟩
      · rw [hlv] at hl; cases hl
    · -- apart
      have key : ∀ a b, (a = k ∨ a = kg ∨ a = k') → liveB H' a = true → Foot μ' a b → (a = k ∧ Foot μ k b) ∨ (a = kg ∧ (Foot μ kg b ∨ b = b0)) := fun a b ha hl hft => by
        rcases ha with rfl | rfl | rfl
        · refine .inl ⟨rfl, ?_⟩
          rcases hft with hm | hi
          · exact .inl hm
          · change (if a = kg then _ else _) at hi
            rw [if_neg (Ne.symm ne2)] at hi; exact .inr hi
        · refine .inr ⟨rfl, ?_⟩
          rcases hft with hm | hi
          · exact .inl (.inl hm)
          · change (if a = a then _ else _) at hi
            rw [if_pos rfl] at hi
            exact hi.elim (fun h => .inl (.inr h)) .inr
        · rw [hlv] at hl; cases hl
      rcases key a b ha hl h4 with ⟨rfl, g1⟩ | ⟨rfl, g1⟩ <;> rcases key a' b ha' hl' h5 with ⟨rfl, g2⟩ | ⟨rfl, g2⟩
      · rfl
      · exfalso
        rcases g2 with g2 | rfl
        · exact ne2 (hr.inj a' a b (live_ob bg) (live_blk bk) g2 g1)
        · exact ne1 (hr.inj a k' b (live_blk bk) (live_blk bk') g1 (.inl ⟨_, q1⟩))
      · exfalso
        rcases g1 with g1 | rfl
        · exact ne2 (hr.inj a a' b (live_ob bg) (live_blk bk) g1 g2)
        · exact ne1 (hr.inj a' k' b (live_blk bk) (live_blk bk') g2 (.inl ⟨_, q1⟩))
      · rfl
    · simp [H'] at hle
      rcases ha with rfl | rfl | rfl <;> omega
    · rcases ha with rfl | rfl | rfl
      · rw [blkOf_at gk] at hb1
        simp only [Blk.es, Option.some.injEq, Prod.mk.injEq] at hb1
        obtain ⟨rfl, rfl⟩ := hb1
        refine .inr ⟨b, M, c, t, e1, e2, e3, by simpa using e4, fun j1 y1 hy1 => ?_⟩
        rw [List.getElem?_set] at hy1
        split at hy1
        · rename_i e; subst e
          split at hy1
          · cases hy1
            refine ⟨by rw [hd']; simpa using z1, fun r1 d1 hd1 => ?_⟩
            rw [hd', List.getElem?_set] at hd1
            split at hd1
            · rename_i e; subst e
              split at hd1
              · cases hd1; exact ⟨_, x1, x2, .cl _ _ (.v _ x2)⟩
              · cases hd1
            · obtain ⟨v, v1, v2, v3⟩ := z2 r1 d1 hd1
              exact ⟨v, v1, v2, v3.mono (fun _ _ _ e => e) upm⟩
          · cases hy1
        · obtain ⟨y2, y3⟩ := e5 j1 y1 hy1
          exact ⟨y2, fun r1 d1 hd1 => let ⟨v, v1, v2, v3⟩ := y3 r1 d1 hd1; ⟨v, v1, v2, v3.mono (fun _ _ _ e => e) upm⟩⟩
      · rw [blkOf_at gg] at hb1; cases hb1
      · rw [blkOf_at gd] at hb1; cases hb1
    · rcases ha with rfl | rfl | rfl
      · show ¬ (if a = kg then _ else _)
        rw [if_neg (Ne.symm ne2)]; exact hr.plain a _ bk b
      · rw [blkOf_at gg] at hb1; cases hb1
      · rw [blkOf_at gd] at hb1; cases hb1
    · rcases ha with rfl | rfl | rfl
      · rw [obOf_at gk] at hy; cases hy
      · rw [obOf_at gg] at hy; cases hy
        refine ⟨o1, fun n => if n = j then b0 else loc n, fun n e row1 he => ?_, fun n n' e e' row1 row2 he he' hh => ?_⟩
        · rw [grPut_get _ hj] at he
          split at he
          · rename_i en
            cases he
            refine ⟨c1, t1, cap, by simp only [if_pos en], q2, by rw [f3]; exact q3, by simp only [if_pos en]; exact f2, f5.mono (fun _ _ _ e => e) upm, hfr, ?_⟩
            show (if a = a then _ else _)
            rw [if_pos rfl]; exact .inr (by simp only [if_pos en])
          · rename_i en
            obtain ⟨c2, t2, cap2, g1, g2, g3, g4, g5, g6, g7⟩ := o2 n e row1 he
            refine ⟨c2, t2, cap2, by simp only [if_neg en]; exact g1, g2, g3, by simp only [if_neg en]; exact g4, g5.mono (fun _ _ _ e => e) upm, g6, ?_⟩
            show (if a = a then _ else _)
            rw [if_pos rfl]; simp only [if_neg en]; exact .inl g7
        · rw [grPut_get _ hj] at he he'
          by_cases n1 : n = j <;> by_cases n2 : n' = j
          · omega
          · exfalso
            rw [if_neg n2] at he'
            simp only [if_pos n1, if_neg n2] at hh
            obtain ⟨_, _, _, _, _, _, _, _, _, g7⟩ := o2 n' _ _ he'
            exact hown _ g7 hh.symm
          · exfalso
            rw [if_neg n1] at he
            simp only [if_neg n1, if_pos n2] at hh
            obtain ⟨_, _, _, _, _, _, _, _, _, g7⟩ := o2 n _ _ he
            exact hown _ g7 hh
          · rw [if_neg n1] at he; rw [if_neg n2] at he'
            simp only [if_neg n1, if_neg n2] at hh
            exact o3 n n' _ _ _ _ he he' hh
      · rw [obOf_at gd] at hy; cases hy
    · rcases ha with rfl | rfl | rfl
      · exact absurd (show μ a = none from he) (hne F μ act w h1)
      · change μ a = none at he; rw [o1] at he; cases he
      · change μ a = none at he; rw [q1] at he; cases he
    · rcases ha with rfl | rfl | rfl
      · rw [gk] at hy; cases hy; exact fun _ _ e => by cases e
      · rw [gg] at hy; cases hy; exact fun _ _ e => by cases e
      · rw [gd] at hy; cases hy; exact fun _ _ e => by cases e
  obtain ⟨r1, r2, r3⟩ := r
  have hob : ∀ a, obOf s.H a = some .mk → obOf H' a = some .mk ∧ ∀ b, μ.inn a b → μ'.inn a b := fun a ha => by
    have n1 : a ≠ k := by rintro rfl; rw [ob_blk ha] at bk; cases bk
    have n2 : a ≠ kg := by rintro rfl; rw [ha] at bg; cases bg
    have n3 : a ≠ k' := by rintro rfl; rw [ob_blk ha] at bk'; cases bk'
    refine ⟨?_, fun b hb => ?_⟩
    · unfold obOf at ha ⊢; rw [hget, if_neg n1, if_neg n2, if_neg n3]; exact ha
    · show (if a = kg then _ else _)
      rw [if_neg n2]; exact hb
  have rl : RL m F μ' { s with H := H' } act w := ⟨r1, ⟨fun t d ht => let ⟨v, v1, v2⟩ := h1.er.env t d ht; ⟨v, v1, v2.mono (fun _ _ _ e => e) r3⟩, h1.er.nt, h1.er.dfs.mono (fun _ _ _ e => e) r3 (fun a ha => hob a ha)⟩, by simpa [H'] using h1.len⟩
  obtain ⟨F2, μ2, s2, k1, k2, k3, k4, k5⟩ := (h _ _ q2).out F μ' act w rl
  exact ⟨F2, μ2, s2, r2.trans k1, Kp.trans (H := s.H) (H' := H') (μ := μ) (μ' := μ') ⟨fun _ _ => rfl, fun a _ ha => hob a ha⟩ k2, k3, fun d v hd hv => k4 d v hd (hv.mono (fun _ _ _ e => e) r3), k5⟩⟩
end
end Go.Abs

/-! A69 -/
namespace Go.Abs
open Go

section
variable {P : Program} {T : TT} {F : Fz} {μ : Mu} {w : World}

/-- The first elements of a row that is named at the place j, as an own row. -/
theorem hr_grTake (kg j n : Nat) {H : List Blk} {isz : Nat} {row : List D} {x : Value} {ents : List Ent} (hr : HR F μ H w) (hg : nthB H kg = some (.ob (.gr isz ents))) (hj : ents[j]? = some (x, some row)) :
    ∃ (b0 cap : Nat) (c0 : Array Value) (t0 : TypeId) (μ' : Mu), x = .slice (some ⟨b0, 0, none⟩) row.length cap ∧ row.length ≤ cap ∧ cap * isz ≤ c0.size ∧ w.heap[b0]? = some (.cells c0 t0 (0, 0)) ∧ CellsR F μ isz row c0 ∧ FrL row ∧
      HR F μ' (H.set kg (.ob (.gr isz (ents.set j (x, none)))) ++ [.els isz (row.take n)]) w ∧ Post F μ H w F μ' (H.set kg (.ob (.gr isz (ents.set j (x, none)))) ++ [.els isz (row.take n)]) w ∧
      (∀ a y, μ a = some y → μ' a = some y) ∧ (∀ a, a < H.length → μ' a = μ a) ∧ μ' H.length = some (some (b0, c0.size)) ∧ Mks μ H μ' (H.set kg (.ob (.gr isz (ents.set j (x, none)))) ++ [.els isz (row.take n)]) := by
  have bg : obOf H kg = some (.gr isz ents) := by rw [nthB_eq] at hg; rw [obOf_at hg]; rfl
  have lg := obOf_lt bg
  obtain ⟨o1, loc, o2, o3⟩ := hr.obj kg _ bg trivial
  obtain ⟨c0, t0, cap, p1, p2, p3, p4, p5, p6, p7⟩ := o2 j x row hj
  obtain ⟨L, hL⟩ : ∃ L, L = H.length := ⟨_, rfl⟩
  have ng : kg ≠ L := by omega
  have hLn : μ L = none := hr.dom _ (by omega)
  let μ' : Mu := ⟨fun a => if a = L then some (some (loc j, c0.size)) else μ a, fun a b => if a = kg then μ.inn kg b ∧ b ≠ loc j else μ.inn a b⟩
  have m1 : ∀ a, a ≠ L → μ' a = μ a := fun a ha => by show (if a = L then _ else _) = _; rw [if_neg ha]
  have m2 : μ' L = some (some (loc j, c0.size)) := by show (if L = L then _ else _) = _; rw [if_pos rfl]
  have m3 : ∀ a b, a ≠ kg → (μ'.inn a b ↔ μ.inn a b) := fun a b ha => by show (if a = kg then _ else _) ↔ _; rw [if_neg ha]
  have m4 : ∀ b, μ'.inn kg b ↔ (μ.inn kg b ∧ b ≠ loc j) := fun b => by show (if kg = kg then _ else _) ↔ _; rw [if_pos rfl]
  obtain ⟨H', hH'⟩ : ∃ H' : List Blk, H' = H.set kg (.ob (.gr isz (ents.set j (x, none)))) ++ [.els isz (row.take n)] := ⟨_, rfl⟩
  rw [← hH']
  have hlen : H'.length = L + 1 := by rw [hH', hL]; simp
  have hget : ∀ a, H'[a]? = if a = kg then some (.ob (.gr isz (ents.set j (x, none)))) else if a = L then some (.els isz (row.take n)) else H[a]? := fun a => by
    rw [hH']
    by_cases hlt : a < H.length
    · rw [List.getElem?_append_left (by simpa using hlt)]
      simp only [List.getElem?_set]
      by_cases a2 : a = kg
      · subst a2; simp [lg]
      · have a2' : ¬ kg = a := fun e => a2 e.symm
        have a3 : a ≠ L := by omega
        simp only [if_neg a2, if_neg a2', if_neg a3]
    · have a2 : a ≠ kg := by omega
      rw [if_neg a2, List.getElem?_append_right (by simp; omega)]
      by_cases a3 : a = L
      · subst a3; rw [if_pos rfl, hL]; simp
      · rw [if_neg a3, List.getElem?_eq_none (by simp; omega), List.getElem?_eq_none (by omega)]
  have gg := hget kg; rw [if_pos rfl] at gg
  have gd := hget L; rw [if_neg (Ne.symm ng), if_pos rfl] at gd
  have upm : ∀ a y, μ a = some y → μ' a = some y := fun a y e => by
    by_cases ha : a = L
    · subst ha; rw [hLn] at e; cases e
    · rw [m1 a ha]; exact e
  have fg : ∀ b, Foot μ' kg b → μ.inn kg b ∧ b ≠ loc j := fun b hb => by
    rcases hb with ⟨M, hM⟩ | hb
    · rw [m1 kg ng, o1] at hM; cases hM
    · exact (m4 b).1 hb
  have fL : ∀ b, Foot μ' L b → b = loc j := fun b hb => by
    rcases hb with ⟨M, hM⟩ | hb
    · rw [m2] at hM; cases hM; rfl
    · exact absurd ((m3 L b (Ne.symm ng)).1 hb) (hr.non _ hLn b)
  have eC : ∀ a, ¬ (a = kg ∨ a = L) → a ≠ kg ∧ a ≠ L := fun a h => ⟨fun e => h (.inl e), fun e => h (.inr e)⟩
  have r : HR F μ' H' w ∧ Post F μ H w F μ' H' w ∧ ∀ j y, μ j = some y → μ' j = some y := by
    refine hr_on (μ' := μ') (w' := w) (H' := H') (fun a => a = kg ∨ a = L) hr (by omega) (fun a ha => by
      obtain ⟨n2, n3⟩ := eC a ha
      rw [hget, if_neg n2, if_neg n3]) (fun a ha => m1 a (eC a ha).2) (fun a b ha => m3 a b (eC a ha).1) (fun a _ y e => upm a y e) (Nat.le_refl _) rfl rfl rfl (fun _ _ _ => rfl) (fun a b ha hl hft => ?_) (fun a a' b ha ha' hl hl' h4 h5 => ?_) (fun a ha hle => ?_) (fun _ a sz1 es1 ha hb1 hne => ?_) (fun a y ha hb1 b => ?_) (fun hmono a y ha hy _ => ?_) (fun a ha he b => ?_) (fun a y ha hy => ?_)
    · rcases ha with rfl | rfl
      · exact .inl ⟨a, .inl rfl, live_ob bg, .inr (fg b hft).1⟩
      · exact .inl ⟨kg, .inl rfl, live_ob bg, .inr (by rw [fL b hft]; exact p7)⟩
    · rcases ha with rfl | rfl <;> rcases ha' with rfl | rfl
      · rfl
      · exact ((fg b h4).2 (fL b h5)).elim
      · exact ((fg b h5).2 (fL b h4)).elim
      · rfl
    · rcases ha with rfl | rfl <;> omega
    · rcases ha with rfl | rfl
      · rw [blkOf_at gg] at hb1; cases hb1
      · rw [blkOf_at gd] at hb1; cases hb1
        refine .inr ⟨_, _, c0, t0, m2, p4, rfl, Nat.le_trans (Nat.mul_le_mul_right _ (Nat.le_trans (by simp; omega : (row.take n).length ≤ row.length) p2)) p3, fun i e he => ?_⟩
        have he' : row[i]? = some e := by
          rw [List.getElem?_take] at he
          split at he
          · exact he
          · cases he
        exact (p5.mono (fun _ _ _ e => e) upm) i e he'
    · rcases ha with rfl | rfl
      · rw [blkOf_at gg] at hb1; cases hb1
      · rw [m3 a b (Ne.symm ng)]; exact hr.non _ hLn b
    · rcases ha with rfl | rfl
      · rw [obOf_at gg] at hy; cases hy
        have hent : ∀ (n : Nat) (e : Value) (row1 : List D), (ents.set j (x, none))[n]? = some (e, some row1) → n ≠ j ∧ ents[n]? = some (e, some row1) := fun n e row1 he => by
          rw [List.getElem?_set] at he
          split at he
          · split at he <;> cases he
          · rename_i hne; exact ⟨fun e => hne e.symm, he⟩
        refine ⟨by rw [m1 a ng]; exact o1, loc, fun n e row1 he => ?_, fun n n' e e' row1 row2 he he' hh => o3 n n' _ _ _ _ (hent _ _ _ he).2 (hent _ _ _ he').2 hh⟩
        obtain ⟨hn, he⟩ := hent n e row1 he
        obtain ⟨c2, t2, cap2, g1, g2, g3, g4, g5, g6, g7⟩ := o2 n e row1 he
        exact ⟨c2, t2, cap2, g1, g2, g3, g4, g5.mono (fun _ _ _ e => e) upm, g6, (m4 _).2 ⟨g7, fun e0 => hn (o3 n j _ _ _ _ he hj e0)⟩⟩
      · rw [obOf_at gd] at hy; cases hy
    · rcases ha with rfl | rfl
      · rw [m1 a ng, o1] at he; cases he
      · rw [m2] at he; cases he
    · rcases ha with rfl | rfl
      · rw [gg] at hy; cases hy; exact fun _ _ e => by cases e
      · rw [gd] at hy; cases hy; exact fun _ _ e => by cases e; exact ⟨fun d hd => p6.out d (List.mem_of_mem_take hd)⟩
  obtain ⟨r1, r2, r3⟩ := r
  refine ⟨loc j, cap, c0, t0, μ', p1, p2, p3, p4, p5, p6, r1, r2, r3, fun a ha => m1 a (by omega), by rw [← hL]; exact m2, fun a ha => ?_⟩
  have n2 : a ≠ kg := by rintro rfl; rw [ha] at bg; cases bg
  have la := obOf_lt ha
  refine ⟨?_, fun b hb => (m3 a b n2).2 hb⟩
  unfold obOf at ha ⊢
  rw [hget, if_neg n2, if_neg (by omega)]; exact ha

/-- The cells of a row from one element on. -/
theorem cellsR_drop {sz j : Nat} {es : List D} {c : Array Value} (h : CellsR F μ sz es c) (hm : es.length * sz ≤ c.size) :
    ((c.toList.drop (j * sz)).take ((es.length - j) * sz)).length = (es.length - j) * sz ∧ CellsR F μ sz (es.drop j) ((c.toList.drop (j * sz)).take ((es.length - j) * sz)).toArray := by
  have hl : ((c.toList.drop (j * sz)).take ((es.length - j) * sz)).length = (es.length - j) * sz := by
    have e : c.toList.length = c.size := Array.length_toList
    rw [List.length_take, List.length_drop, e, Nat.sub_mul]
    omega
  refine ⟨hl, fun i e he => ?_⟩
  rw [List.getElem?_drop] at he
  obtain ⟨h1, h2⟩ := h (j + i) e he
  have hlt := (List.getElem?_eq_some_iff.1 he).1
  refine ⟨h1, fun r d hd => ?_⟩
  obtain ⟨v, v1, v2, v3⟩ := h2 r d hd
  refine ⟨v, ?_, v2, v3⟩
  have hr : r < sz := by have := (List.getElem?_eq_some_iff.1 hd).1; omega
  have hi : i * sz + r < (es.length - j) * sz := by
    have : (i + 1) * sz ≤ (es.length - j) * sz := Nat.mul_le_mul_right _ (by omega)
    rw [Nat.add_mul] at this; omega
  rw [List.getElem?_toArray, List.getElem?_take, if_pos hi, List.getElem?_drop, Array.getElem?_toList]
  rw [show j * sz + (i * sz + r) = (j + i) * sz + r by rw [Nat.add_mul]; omega]
  exact v1
end

section
variable {P : Program} {T : TT} {r : Option Nat} {K : D → List Blk → List AD → Prop} {X : D → List Blk → Prop} {s : St} {o : Oper}

/-- The head and the tail of a row that memory names, appended in place. -/
theorem opA_appTail (hT : TOK P T) (kg j : Nat) {t el : TypeId} {x y : Operand} {e e2 : TE} {sz b0 k m2 N cap c2 : Nat} {a2 : Option Addr} {ents : List Ent} {row : List D}
    (ho : o.op = .call { callee := .builtin .append, args := #[x, y], argTypes := #[t, t] }) (hx : evo s.env x = some (.v (.slice (some ⟨b0, 0, none⟩) k cap))) (hy : evo s.env y = some (.v (.slice a2 m2 c2)))
    (he : tget T t = some e) (hel : e.el = some (none, el)) (he2 : tget T el = some e2) (hsz : sz + 1 = e2.size) (hg : nthB s.H kg = some (.ob (.gr (sz + 1) ents))) (hj : ents[j]? = some (.slice (some ⟨b0, 0, none⟩) N cap, some row)) (hN : N = row.length)
    (hk : k + 1 + m2 = N) (ha2 : 0 < m2 → a2 = some ⟨b0, (k + 1) * (sz + 1), none⟩) (hroom : N * e2.bytes ≤ 140737488355328) (hroom2 : N ≤ 4611686018427387904)
    (h : K (.o (s.H.length + 1) (sz + 1) (k + m2)) ((s.H.set kg (.ob (.gr (sz + 1) (ents.set j (.slice (some ⟨b0, 0, none⟩) N cap, none)))) ++ [.dead]) ++ [.els (sz + 1) (row.take k ++ row.drop (k + 1))]) s.dfs) : OpA P r o s K X := by
  refine ⟨fun F μ a w hr her next Q hn _ => ?_⟩
  have hvx := (her.evo hx).v_inv
  have hvy := (her.evo hy).v_inv
  obtain ⟨b1, cap1, c0, t0, μ1, p1, p2, p3, p4, p5, p6, r1, r2, r3, r4, r5, r6⟩ := hr_grTake kg j k hr hg hj
  obtain ⟨rfl, rfl⟩ : b0 = b1 ∧ cap = cap1 := by simpa [hN] using p1
  obtain ⟨L, hL⟩ : ∃ L, L = s.H.length := ⟨_, rfl⟩
  rw [← hL] at r5 h
  obtain ⟨H1, hH1⟩ : ∃ H1, H1 = s.H.set kg (.ob (.gr (sz + 1) (ents.set j (.slice (some ⟨b0, 0, none⟩) N cap, none)))) ++ [.els (sz + 1) (row.take k)] := ⟨_, rfl⟩
  rw [← hH1] at r1 r2 r6
  have hH1l : H1.length = L + 1 := by rw [hH1, hL]; simp
  have hkb : nthB H1 L = some (.els (sz + 1) (row.take k)) := by
    rw [nthB_eq, hH1, List.getElem?_append_right (by simp; omega)]; simp [hL]
  have htk : k = (row.take k).length := by rw [List.length_take]; omega
  have hv1 : VR F μ1 (.o L (sz + 1) k) (.slice (some ⟨b0, 0, none⟩) k cap) := .o _ _ _ _ _ _ r5 (by omega) p3
  have hcs : row.length * (sz + 1) ≤ c0.size := Nat.le_trans (Nat.mul_le_mul_right _ p2) p3
  have hrt : (k + m2) * e2.bytes ≤ 140737488355328 := Nat.le_trans (Nat.mul_le_mul_right _ (by omega)) hroom
  obtain ⟨d1, d2⟩ := cellsR_drop (j := k + 1) (p5.mono (fun _ _ _ e => e) r3) hcs
  have hrl : row.length - (k + 1) = m2 := by omega
  rw [hrl] at d1 d2
  obtain ⟨w', μ2, v', g1, g2, g3⟩ := app_own hT r1 (ty := o.type) hv1 he hel he2 hsz hkb htk (ys := row.drop (k + 1)) (m := m2) (c := c2) (x := a2) (by rw [List.length_drop]; omega) ⟨fun d hd => p6.out d (List.mem_of_mem_drop hd)⟩ hrt (by omega) (fun hm => by
    refine ⟨_, ha2 hm, (c0.toList.drop ((k + 1) * (sz + 1))).take (m2 * (sz + 1)), d1, fun i u hu => ?_, fun u hu => ?_, d2⟩
    · rw [add_lit]
      rw [List.getElem?_take] at hu
      split at hu
      · rw [List.getElem?_drop, Array.getElem?_toList] at hu
        simp only [World.cell?, p4]
        exact hu
      · cases hu
    · obtain ⟨i, hi⟩ := List.mem_iff_getElem?.1 hu
      have hil : i < m2 * (sz + 1) := by have := (List.getElem?_eq_some_iff.1 hi).1; omega
      have hq : i / (sz + 1) < m2 := Nat.div_lt_of_lt_mul (by rw [Nat.mul_comm]; exact hil)
      have hex : (row.drop (k + 1))[i / (sz + 1)]? = some ((row.drop (k + 1))[i / (sz + 1)]'(by rw [List.length_drop]; omega)) := List.getElem?_eq_getElem _
      obtain ⟨q1, q2⟩ := d2 _ _ hex
      have hmod : i % (sz + 1) < sz + 1 := Nat.mod_lt _ (Nat.succ_pos _)
      obtain ⟨v, v1, v2, -⟩ := q2 (i % (sz + 1)) _ (List.getElem?_eq_getElem (by omega))
      have hidx : i / (sz + 1) * (sz + 1) + i % (sz + 1) = i := by rw [Nat.mul_comm]; exact Nat.div_add_mod i (sz + 1)
      rw [hidx, List.getElem?_toArray, hi] at v1
      cases v1; exact v2)
  have hrun : (o.semAt r a.eval).run P w = .ok (.value v') w' := by
    rw [Oper.semAt_eq r a.eval o (fun c e => by rw [ho] at e; cases e)]
    unfold execOp
    rw [ho]
    simp only [resolve, Sem.run_bind, Sem.run_pure, Result.andThen_ok, invoke, builtin]
    rw [show (Array.map a.eval #[x, y]) = #[a.eval x, a.eval y] from by simp, hvx, hvy, g1]
    rfl
  rw [hrun, Oper.uponIn_value]
  have hst := g3.stp
  have e1 : H1.set L .dead ++ [.els (sz + 1) (row.take k ++ row.drop (k + 1))] = (s.H.set kg (.ob (.gr (sz + 1) (ents.set j (.slice (some ⟨b0, 0, none⟩) N cap, none)))) ++ [.dead]) ++ [.els (sz + 1) (row.take k ++ row.drop (k + 1))] := by
    congr 1
    rw [hH1, List.set_append_right _ _ (by simp; omega)]
    simp [hL]
  rw [e1] at hst
  have hs2 : Stp F μ s.H w F μ2 ((s.H.set kg (.ob (.gr (sz + 1) (ents.set j (.slice (some ⟨b0, 0, none⟩) N cap, none)))) ++ [.dead]) ++ [.els (sz + 1) (row.take k ++ row.drop (k + 1))]) w' :=
    ⟨r2.trans hst.post, hst.hr, by simp, fun i hi => (hst.same i (by rw [hH1l]; omega)).trans (r4 i hi), fun i hi => by
      obtain ⟨q1, q2⟩ := r6 i hi
      obtain ⟨q3, q4⟩ := hst.mks i q1
      exact ⟨q3, fun b hb => q4 b (q2 b hb)⟩⟩
  rw [hH1l] at g2
  exact hn F μ2 _ w' s.dfs _ _ v' hs2 (hs2.adr hr her.dfs) g2 h
end
end Go.Abs

/-! A70 -/
namespace Go.Abs
open Go

section
variable {m : Nat} {K : St → Prop} {s : St}

theorem gs_boxPut (kg k k' j f t off : Nat) {isz : Nat} {row : List D} {d : D} {ents : List Ent} (d' : Value → D) (hg : nthB s.H kg = some (.ob (.gr isz ents))) (hk : nthB s.H k = some (.box d)) (hk' : nthB s.H k' = some (.els isz row)) (ht : getE s.env t = some (.b k off))
    (hj : j ≤ ents.length) (hjo : ∀ e row', ents[j]? ≠ some (e, some row')) (hr0 : 0 < row.length) (hf : d.cells[f]? = some (.o k' isz row.length)) (hd' : ∀ x, (d' x).cells = d.cells.set f (.v x))
    (h : ∀ b0 cap : Nat, row.length ≤ cap → GS m K { s with H := ((s.H.set k' .dead).set kg (.ob (.gr isz (grPut ents j (.slice (some ⟨b0, 0, none⟩) row.length cap, some row))))).set k (.box (d' (.slice (some ⟨b0, 0, none⟩) row.length cap))) }) : GS m K s := by
  have hkl : k < s.H.length := by rw [nthB_eq] at hk; exact (List.getElem?_eq_some_iff.1 hk).1
  have ne1 : k ≠ k' := by rintro rfl; rw [hk] at hk'; cases hk'
  have ne2 : k ≠ kg := by rintro rfl; rw [hk] at hg; cases hg
  refine gs_boxElo k hk ?_
  refine gs_grPutN kg k k' j 0 f (es := [d]) (d := d) (sz := d.cells.length) (row := row) (ents := ents) d' ?_ ?_ ?_ (fun F μ act w hrl => ?_) hj hjo hr0 rfl hf hd' fun b0 cap hcap => ?_
  · show nthB (s.H.set k _) kg = _
    rw [nthB_eq, List.getElem?_set_ne ne2, ← nthB_eq]; exact hg
  · show nthB (s.H.set k _) k = _
    rw [nthB_eq, List.getElem?_set_self hkl]
  · show nthB (s.H.set k _) k' = _
    rw [nthB_eq, List.getElem?_set_ne ne1, ← nthB_eq]; exact hk'
  · obtain ⟨v, -, hv⟩ := hrl.er.env t _ ht
    cases hv with
    | cl _ _ hc => cases hc
    | b _ _ b1 m1 hm => rw [hm]; simp
  · refine gs_eloBox k (d := d' (.slice (some ⟨b0, 0, none⟩) row.length cap)) (n := d.cells.length) (by rw [hd', List.length_set]) ?_ ?_
    · show nthB ((((s.H.set k _).set k' _).set kg _).set k _) k = _
      rw [nthB_eq, List.getElem?_set_self (by simpa using hkl)]; rfl
    · have e : ((((((s.H.set k (.elo d.cells.length [d])).set k' .dead).set kg (.ob (.gr isz (grPut ents j (.slice (some ⟨b0, 0, none⟩) row.length cap, some row))))).set k (.elo d.cells.length ([d].set 0 (d' (.slice (some ⟨b0, 0, none⟩) row.length cap))))).set k (.box (d' (.slice (some ⟨b0, 0, none⟩) row.length cap))))) = ((s.H.set k' .dead).set kg (.ob (.gr isz (grPut ents j (.slice (some ⟨b0, 0, none⟩) row.length cap, some row))))).set k (.box (d' (.slice (some ⟨b0, 0, none⟩) row.length cap))) := by
        rw [List.set_set]
        rw [List.set_comm _ _ ne1, List.set_comm _ _ ne2, List.set_set]
      show GS m K { s with H := _ }
      rw [e]
      exact h b0 cap hcap
end

section
variable {P : Program} {T : TT} {r : Option Nat} {m : Nat} {ops : Array Oper} {Q : AX → St → Prop} {s : St}

/-- An operation without a guard in a drawn region, as it is shown by itself. -/
theorem draw_opA {A : Ar} (hA : A = ar) {Dk : List Nat → List (Nat × PK) → St → Prop} (hD : Dk = DrawA P T r m ops Q) {i : Nat} {L : List Nat} {pend : List (Nat × PK)} {o : Oper}
    (hoi : ops[i]? = some o) (hd : dstOk s.nt o.dst = true) (hlk : looksB ops o pend = true) (hw : writesB ops o (dropP o pend) = true) (hrd : readyB ops i L = true) (hg : o.guard = none)
    (h : OpA P r o (s.only (o.looksAt ops)) (fun d H' ds => AftG P T r m ops Q L (dropP o pend) (s.step o.dst d H' ds)) (fun _ _ => False)) : Dk (i :: L) pend s := by
  subst hD
  refine drawA_eff hoi hd hlk hw hrd ?_
  simp only [guardA, hg]
  subst hA
  exact h.mono (fun d H' ds hk => ⟨hk.pins, hk.go⟩) (fun _ _ hx => hx.elim)
end
end Go.Abs

/- Part MachE of the proofs about the benches of the accordion maker: see the last text of the claim for what is proved. -/
import Derived.Laws.IdiomRangeMap
import Derived.RecoverIn
import Derived.Test.YtecfpfhkicapeaaMachD
set_option linter.unusedVariables false
set_option linter.unusedSimpArgs false
set_option linter.unnecessarySimpa false
set_option linter.constructorNameAsVariable false

namespace Go.Abs
open Go
section
variable {P : Program} {T : TT} {r : Option Nat} {m : Nat} {Q : AX → St → Prop} {F : Fz} {μ : Mu} {w : World} {K : St → Prop} {s : St}
end
end Go.Abs

namespace Go.Abs
open Go
section
variable {P : Program} {T : TT} {r : Option Nat} {m : Nat} {Q : AX → St → Prop} {F : Fz} {μ : Mu} {w : World} {K : St → Prop} {s : St}
theorem virtE_rl {a : Act} {k i f sz isz : Nat} {es : List D} {d d' : D} (hk : nthB s.H k = some (.elo sz es)) (hi : es[i]? = some d) (hf : d.cells[f]? = some (.v (.slice none 0 0))) (hd : d'.cells = d.cells.set f (.o s.H.length isz 0)) (h : RL m F μ s a w) :
    ∃ μ', RL m F μ' { s with H := s.H.set k (.elo sz (es.set i d')) ++ [.els isz []] } a w ∧ Post F μ s.H w F μ' (s.H.set k (.elo sz (es.set i d')) ++ [.els isz []]) w ∧ Kp m μ s.H μ' (s.H.set k (.elo sz (es.set i d')) ++ [.els isz []]) := by
  obtain ⟨q1, q2, q3⟩ := hr_virt h.hr (sz := isz) (h.hr.dom _ (Nat.le_refl _)) (Nat.le_refl _)
  rw [setB_new] at q1 q2
  have hkl : k < s.H.length := by rw [nthB_eq] at hk; exact (List.getElem?_eq_some_iff.1 hk).1
  have hk' : nthB (s.H ++ [Blk.els isz []]) k = some (.elo sz es) := nthB_app hk
  have hb := blk_elo hk'
  obtain ⟨X, hX⟩ : ∃ X, X = Blk.elo sz (es.set i d') := ⟨_, rfl⟩
  have hset : ∀ j, ((s.H ++ [Blk.els isz []]).set k X)[j]? = if j = k then some X else (s.H ++ [Blk.els isz []])[j]? := fun j => by
    have := setB_get (H := s.H ++ [Blk.els isz []]) X (k := k) (by simp; omega) j
    rwa [setB, if_pos (by simp; omega)] at this
  have hlen : d'.cells.length = d.cells.length := by rw [hd]; simp
  obtain ⟨r1, r2, -⟩ := hr_on (μ' := updM μ s.H.length none) (w' := w) (H' := (s.H ++ [Blk.els isz []]).set k X) (fun j => j = k) q1 (by simp) (fun j hj => by rw [hset, if_neg hj]) (fun j _ => rfl) (fun j b _ => Iff.rfl) (fun _ _ _ h => h) (Nat.le_refl _) rfl rfl rfl
    (fun b' hb' hn => rfl) (fun k' b' hk' _ hf => .inl ⟨k, rfl, live_blk hb, by subst hk'; exact hf⟩) (fun k1 k2 b h1 h2 _ _ _ _ => h1.trans h2.symm)
    (fun k' hk' hle' => by subst hk'; simp at hle'; omega) (fun _ k' sz1 es1 hk' hb1 hne => by
      subst hk'
      rw [blkOf_at (x := X) (by rw [hset, if_pos rfl]), hX] at hb1
      simp only [Blk.es, Option.some.injEq, Prod.mk.injEq] at hb1
      obtain ⟨rfl, rfl⟩ := hb1
      rcases q1.row k' _ _ hb hne with ⟨e1, e2⟩ | ⟨b, m, c, t, e1, e2, e3, e4, e5⟩
      · subst e2; simp at hi
      · refine .inr ⟨b, m, c, t, e1, e2, e3, by simpa using e4, fun j e he => ?_⟩
        rw [List.getElem?_set] at he
        split at he
        · rename_i e0; subst e0
          split at he
          · cases he
            obtain ⟨z1, z2⟩ := e5 i _ hi
            refine ⟨by rw [hlen]; exact z1, fun r x hx => ?_⟩
            rw [hd, List.getElem?_set] at hx
            split at hx
            · rename_i e0; subst e0
              split at hx
              · cases hx
                obtain ⟨v, v1, v2, v3⟩ := z2 f _ hf
                refine ⟨v, v1, v2, ?_⟩
                rw [v3.v_inv]; exact .oNil _ _ none (updM_at _ _ _)
              · cases hx
            · exact z2 r _ hx
          · cases he
        · exact e5 j e he) (fun k' y hk' _ b => by subst hk'; exact q1.plain k' _ hb b) (fun _ k' y hk' hy _ => by subst hk'; rw [obOf_at (x := X) (by rw [hset, if_pos rfl]), hX] at hy; cases hy) (fun k' hk' he => by subst hk'; exact q1.non _ he) (fun k' y hk' hy => by
      subst hk'; rw [hset, if_pos rfl, hX] at hy; cases hy; exact fun _ _ e => by cases e)
  have hs : (s.H ++ [Blk.els isz []]).set k X = s.H.set k X ++ [.els isz []] := by rw [List.set_append_left _ _ hkl]
  have hob : ∀ j y, obOf s.H j = some y → obOf ((s.H ++ [Blk.els isz []]).set k X) j = some y := fun j y hj => obOf_set _ hb (obOf_app _ hj)
  rw [hs] at r1 r2 hob
  subst hX
  refine ⟨_, ⟨r1, ⟨fun n x hn => ?_, h.er.nt, h.er.dfs.mono (fun _ _ _ e => e) q3 (fun j hj => ⟨hob j _ hj, fun _ e => e⟩)⟩, by have := h.len; simp; omega⟩, q2.trans r2, ⟨fun i hi => by rw [updM_ne _ (by have := h.len; omega)], fun i _ hk => ⟨hob i _ hk, fun _ e => e⟩⟩⟩
  obtain ⟨v, h1, h2⟩ := h.er.env n x hn
  exact ⟨v, h1, h2.mono (fun _ _ _ e => e) q3⟩
theorem gs_virtE (k i f : Nat) {sz : Nat} (isz : Nat) {es : List D} {d : D} (d' : D) (hk : nthB s.H k = some (.elo sz es)) (hi : es[i]? = some d) (hf : d.cells[f]? = some (.v (.slice none 0 0))) (hd : d'.cells = d.cells.set f (.o s.H.length isz 0))
    (h : GS m K { s with H := s.H.set k (.elo sz (es.set i d')) ++ [.els isz []] }) : GS m K s :=
  gs_trans (fun F μ act w h1 => let ⟨μ', g1, g2, g3⟩ := virtE_rl hk hi hf hd h1; ⟨F, μ', g2, g3, g1⟩) h
end
end Go.Abs

namespace Go.Abs
open Go
section
variable {P : Program} {T : TT} {r : Option Nat} {m : Nat}
theorem bm2 {S : Stop} {α : Type} {b : Bool} {X Y : Prop} {c : Code} {Q : AX → St → Prop} (mk : α → St) (Pr : α → Prop) (h1 : (∀ x, Pr x → S.code c Q (mk x)) → b = true → X) (h2 : (∀ x, Pr x → S.code c Q (mk x)) → b = false → Y) (rest : ∀ x, Pr x → S.code c Q (mk x)) :
    (match (generalizing := false) b with | true => X | false => Y) := by
  cases b
  · exact h2 rest rfl
  · exact h1 rest rfl
theorem join_at {S : Stop} (hS : S = theStop P r m) {α : Type} {Pr : α → Prop} {mk : α → St} {c : Code} {Q : AX → St → Prop} {s : St} (rest : ∀ x, Pr x → S.code c Q (mk x)) (x : α) (hx : Pr x) (h : GS m (fun s' => s' = mk x) s) : S.code c Q s :=
  code_gs hS (gs_mono h fun s' e => by rw [e]; exact rest x hx)
theorem gs_elsE {K : St → Prop} {s : St} (k : Nat) {sz : Nat} {es es' : List D} (hk : nthB s.H k = some (.els sz es)) (e : es = es') (h : GS m K { s with H := s.H.set k (.els sz es') }) : GS m K s := by
  subst e
  have e1 : s.H.set k (.els sz es) = s.H := List.ext_getElem? fun i => by
    rw [List.getElem?_set]
    split
    · rename_i e; subst e
      split
      · exact (((nthB_eq s.H k).symm.trans hk)).symm
      · rw [List.getElem?_eq_none (by omega)]
    · rfl
  rw [e1] at h
  exact h
end
end Go.Abs

namespace Go.Abs
open Go
def nilS : Value := .slice none 0 0
structure GridOk (xs : List Value) (rows : List (List D)) : Prop where
  nil : ∀ j, j < xs.length → rows.getD j [] = [] → xs.getD j nilS = nilS
  fr : ∀ j, FrL (rows.getD j [])
section
variable {m : Nat} {K : St → Prop} {E : List (Nat × D)} {b0 b3 b4 : Blk} {nt : Nat}
end
end Go.Abs

namespace Go.Abs
open Go
section
variable {P : Program} {T : TT} {r : Option Nat} {m : Nat} {Q : AX → St → Prop} {F : Fz} {μ : Mu} {w : World} {K : St → Prop} {s : St}
theorem gs_blkE (k : Nat) {x y : Blk} (hk : nthB s.H k = some x) (e : x = y) (h : GS m K { s with H := s.H.set k y }) : GS m K s := by
  subst e
  have e1 : s.H.set k x = s.H := List.ext_getElem? fun i => by
    rw [List.getElem?_set]
    split
    · rename_i e; subst e
      split
      · exact (((nthB_eq s.H k).symm.trans hk)).symm
      · rw [List.getElem?_eq_none (by omega)]
    · rfl
  rw [e1] at h
  exact h
end
end Go.Abs

namespace Go.Abs
open Go
section
variable {P : Program} {T : TT} {r : Option Nat} {m : Nat} {ops : Array Oper} {Q : AX → St → Prop} {s : St}
end
end Go.Abs

namespace Go.Abs
open Go
def keyOut (kn : Nat) (l : List Int) : D := match kn with | 0 => .v (.int .i64 (l.headD 0)) | _ + 1 => .agg (l.map (fun x => .v (.int .i64 x)))
section
variable {P : Program} {T : TT} {F : Fz} {μ : Mu} {w : World} {r : Option Nat} {m : Nat} {ops : Array Oper} {Q : AX → St → Prop} {s : St}
theorem keyOut_vr (kn : Nat) (l : List Int) (hl : l.length = Nat.max 1 kn) : VR F μ (keyOut kn l) (flatV (kn != 0) l) := by
  cases kn with
  | zero => exact .cl _ _ (.v _ rfl)
  | succ n =>
    show VR F μ (.agg (l.map (fun x => .v (.int .i64 x)))) (.agg (l.map (Value.int .i64)).toArray)
    refine .cl _ _ (.agg _ _ (by simp) (fun i c v h1 h2 => ?_) (fun i v h2 => ?_))
    · simp only [List.getElem?_map, Option.map_eq_some_iff] at h1
      simp only [List.getElem?_toArray, List.getElem?_map, Option.map_eq_some_iff] at h2
      obtain ⟨x, hx, rfl⟩ := h1
      obtain ⟨y, hy, rfl⟩ := h2
      rw [hx] at hy; cases hy
      exact .v _ rfl
    · simp only [List.getElem?_toArray, List.getElem?_map, Option.map_eq_some_iff] at h2
      obtain ⟨y, hy, rfl⟩ := h2
      rfl
theorem set_same {w : World} {b : Nat} {o : Obj} (h : w.heap[b]? = some o) : w.heap = w.heap.setIfInBounds b o := by
  apply Array.ext_getElem?
  intro j
  rw [Array.getElem?_setIfInBounds]
  split
  · rename_i e; subst e
    have hlt := (Array.getElem?_eq_some_iff.1 h).1
    rw [if_pos hlt]; exact h
  · rfl
theorem opA_range {o : Oper} {K : D → List Blk → List AD → Prop} {X : D → List Blk → Prop} (hT : TOK P T) {t : TypeId} {x : Operand} {k kn : Nat} {ee : TE} {ents : List (List Int × D)} (ho : o.op = .range t x) (hx : evo s.env x = some (.mv k))
    (hk : nthB s.H k = some (.ob (.mp kn ents))) (hmt : mapTE T t = some (kn, ee))
    (h : ∀ bs clock, bs.length = ents.length → bs.Nodup → (∀ c ∈ bs, c < clock) → K (.b s.H.length 0) (s.H.set k (.ob (.mpx kn ents bs clock)) ++ [.ob (.mi k clock [] clock)]) s.dfs) : OpA P r o s K X := by
  refine ⟨fun F μ a w hr he next Q hn _ => ?_⟩
  obtain ⟨kt, et, hu, -⟩ := mapTE_sound hT hmt
  have hxv := he.evo hx
  obtain ⟨b, mm, hav, hμ⟩ : ∃ b m, a.eval x = .map (some b) ∧ μ k = some (some (b, m)) := by
    generalize a.eval x = v at hxv
    cases hxv with | cl _ _ hc => cases hc | mv _ b m hμ => exact ⟨b, m, rfl, hμ⟩
  have hob := obOf_nth hk
  obtain ⟨b', es, clock, o1, o2, o3, o4, o5, o6, o7⟩ := hr.obj _ _ hob (by rw [hμ]; simp)
  rw [hμ] at o1; cases o1
  let bs : List Nat := es.toList.map (·.born)
  have hlen : bs.length = ents.length := by simp [bs, o3]
  have hget : ∀ (i c : Nat), bs[i]? = some c → ∃ e : MapEntry, es[i]? = some e ∧ e.born = c := fun i c hi => by
    have hi' : (es.toList.map (·.born))[i]? = some c := hi
    rw [List.getElem?_map, Option.map_eq_some_iff] at hi'
    obtain ⟨e, h1, h2⟩ := hi'
    exact ⟨e, by rw [← Array.getElem?_toList]; exact h1, h2⟩
  have hnd : bs.Nodup := by
    rw [List.nodup_iff_pairwise_ne, List.pairwise_iff_getElem]
    intro i j hi hj hij e
    obtain ⟨e1, h1, h2⟩ := hget i _ (List.getElem?_eq_getElem hi)
    obtain ⟨e2, h3, h4⟩ := hget j _ (List.getElem?_eq_getElem hj)
    have := o5 i j e1 e2 h1 h3 (by rw [h2, h4, e])
    omega
  have hlt : ∀ c ∈ bs, c < clock := fun c hc => by
    obtain ⟨i, hi⟩ := List.mem_iff_getElem?.1 hc
    obtain ⟨e, h1, h2⟩ := hget i c hi
    rw [← h2]; exact o4 i e h1
  obtain ⟨q1, q2⟩ := hr_obj hr (y := .mpx kn ents bs clock) (o := .map es clock) hob hμ o7 (w' := w) (set_same o2) rfl rfl rfl (fun hb => ⟨b, es, hμ, hb, o3, rfl, hlt, hnd, o6, o7⟩)
  have hst1 : Stp F μ s.H w F μ (s.H.set k (.ob (.mpx kn ents bs clock))) w := ⟨q2, q1, by simp, fun _ _ => rfl, fun i hi => ⟨obOf_set2 (y := .mk) hob (by intro e; cases e) _ hi, fun _ e => e⟩⟩
  have hsz : (s.H.set k (.ob (.mpx kn ents bs clock))).length = s.H.length := by simp
  obtain ⟨u1, u2, u3⟩ := hr_newob q1 (x := .mi k clock [] clock) (o := .mapIter (some b) clock #[] clock) (by intro e; cases e) (fun hb hm => ⟨w.heap.size, b, 0, updM_self _ _ _, hm _ _ hμ, hb, fun c hc => hr.non _ (hr.dom _ (by rw [hsz]; exact Nat.le_refl _)) c hc⟩)
  rw [hsz] at u1 u2 u3
  have hst2 : Stp F μ (s.H.set k (.ob (.mpx kn ents bs clock))) w F (updM μ s.H.length (some (w.heap.size, 0))) (s.H.set k (.ob (.mpx kn ents bs clock)) ++ [.ob (.mi k clock [] clock)]) (w.alloc (.mapIter (some b) clock #[] clock)) :=
    ⟨u2, u1, by simp, fun j hj => by rw [updM_ne _ (by rw [hsz] at hj; omega)], .app _ _ _ _ _⟩
  have hst := hst1.trans hst2
  have hrun := run_range_map (P := P) w t kt et b es clock hu o2
  rw [Oper.semAt_eq r a.eval o (fun c e => by rw [ho] at e; cases e)]
  have hex : (execOp a.eval o).run P w = .ok (.value (.pointer (some ⟨w.heap.size, 0, none⟩))) (w.alloc (.mapIter (some b) clock #[] clock)) := by
    unfold execOp
    rw [ho]
    simp only [hav, Sem.run_bind, hrun, Result.andThen_ok, Sem.run_pure]
  rw [hex, Oper.uponIn_value]
  exact hn F _ _ _ s.dfs _ _ _ hst (hst.adr hr he.dfs) (.b _ 0 _ _ (updM_self _ _ _)) (h bs clock hlen hnd hlt)
theorem tup1_vr {d : D} {v : Value} (h : VR F μ d v) : VR F μ (.tup [d]) (.tuple #[v]) := .tup _ _ rfl fun i c u h1 h2 => by
  match i, h1, h2 with
  | 0, h1, h2 => simp at h1 h2; subst h1 h2; exact h
  | n + 1, h1, h2 => simp at h1
theorem tup2_vr {d e : D} {v u : Value} (h : VR F μ d v) (h' : VR F μ e u) : VR F μ (.tup [d, e]) (.tuple #[v, u]) := .tup _ _ rfl fun i c u h1 h2 => by
  match i, h1, h2 with
  | 0, h1, h2 => simp at h1 h2; subst h1 h2; exact h
  | 1, h1, h2 => simp at h1 h2; subst h1 h2; exact h'
  | n + 2, h1, h2 => simp at h1
theorem tup3_vr {d e f : D} {v u x : Value} (h : VR F μ d v) (h' : VR F μ e u) (h'' : VR F μ f x) : VR F μ (.tup [d, e, f]) (.tuple #[v, u, x]) := .tup _ _ rfl fun i c u h1 h2 => by
  match i, h1, h2 with
  | 0, h1, h2 => simp at h1 h2; subst h1 h2; exact h
  | 1, h1, h2 => simp at h1 h2; subst h1 h2; exact h'
  | 2, h1, h2 => simp at h1 h2; subst h1 h2; exact h''
  | n + 3, h1, h2 => simp at h1
theorem b0_eval {a : Act} (he : ER F μ s a) {x : Operand} {j : Nat} (hx : evo s.env x = some (.b j 0)) : ∃ b m, a.eval x = .pointer (some ⟨b, 0, none⟩) ∧ μ j = some (some (b, m)) := by
  have hxv := he.evo hx
  generalize a.eval x = v at hxv
  cases hxv with
  | cl _ _ hc => cases hc
  | b _ _ b m hμ => exact ⟨b, m, rfl, hμ⟩
theorem opA_next {o : Oper} {K : D → List Blk → List AD → Prop} {X : D → List Blk → Prop} {x : Operand} {j k kn clock : Nat} {ents : List (List Int × D)} {bs seen : List Nat} (ho : o.op = .next x false) (hx : evo s.env x = some (.b j 0))
    (hj : nthB s.H j = some (.ob (.mi k clock seen clock))) (hk : nthB s.H k = some (.ob (.mpx kn ents bs clock)))
    (h0 : (∀ c ∈ bs, c ∈ seen) → K (.tup [.v (.bool false)]) s.H s.dfs)
    (h1 : ∀ (i c : Nat) (e : List Int × D), bs[i]? = some c → ents[i]? = some e → c ∉ seen → e.1.length = Nat.max 1 kn → K (.tup [.v (.bool true), keyOut kn e.1, e.2]) (s.H.set j (.ob (.mi k clock (seen ++ [c]) clock))) s.dfs) : OpA P r o s K X := by
  refine ⟨fun F μ a w hr he next Q hn _ => ?_⟩
  obtain ⟨b, mb, hav, hμj⟩ := b0_eval he hx
  have hoj := obOf_nth hj
  have hok := obOf_nth hk
  obtain ⟨b', bm, m', i1, i2, i3, i4⟩ := hr.obj _ _ hoj (by rw [hμj]; simp)
  rw [hμj] at i1; cases i1
  obtain ⟨bm', es, k1, k2, k3, k4, k5, k6, k7, k8⟩ := hr.obj _ _ hok (by rw [i2]; simp)
  rw [i2] at k1; cases k1
  have hborn : ∀ x ∈ es.toList, x.born < clock := fun x hx => k5 _ (by rw [← k4]; exact List.mem_map.2 ⟨x, hx, rfl⟩)
  rw [Oper.semAt_eq r a.eval o (fun c e => by rw [ho] at e; cases e)]
  have hex : execOp a.eval o = (do let v ← Instr.next (.pointer (some ⟨b, 0, none⟩)) false o.type; pure (.value v)) := by
    unfold execOp
    rw [ho]
    simp only [hav]
  have hcont : ∀ c, seen.toArray.contains c = true ↔ c ∈ seen := fun c => by simp
  -- the run
  have hrun : ((leftOf es seen.toArray).size = 0 ∧ (Instr.next (.pointer (some ⟨b, 0, none⟩)) false o.type).run P w = .ok (.tuple #[.bool false]) w) ∨
      ∃ e ∈ (leftOf es seen.toArray).toList, ∃ w1 : World, w1.heap = w.heap ∧ w1.tape = w.tape ∧ w1.os = w.os ∧ w1.output = w.output ∧
        (Instr.next (.pointer (some ⟨b, 0, none⟩)) false o.type).run P w = .ok (.tuple #[.bool true, e.key, e.val]) { w1 with heap := w1.heap.setIfInBounds b (.mapIter (some bm) clock (seen.toArray.push e.born) clock) } := by
    simp only [Instr.next, getObj, Sem.run_bind, Sem.run, i3, k2, Result.andThen, next_test_false seen.toArray es clock clock hborn (Nat.le_refl _), Bool.false_eq_true, if_false]
    unfold leftOf
    have hmem : ∀ x ∈ (Array.filter (fun e => !seen.toArray.contains e.born) es).toList, x.born < clock := fun x hx => hborn x (by simp at hx ⊢; exact hx.1)
    generalize Array.filter (fun e => !seen.toArray.contains e.born) es = L at hmem ⊢
    have e1 : L.filter (fun x => decide (x.born < clock)) = L := Array.filter_eq_self.2 (fun x hx => by simpa using hmem x (by simpa using hx))
    have e2 : L.filter (fun x => decide (x.born ≥ clock)) = #[] := by
      rw [Array.filter_eq_empty_iff]
      intro x hx
      have := hmem x (by simpa using hx)
      simp
      omega
    simp only [e1, e2, Array.append_empty]
    by_cases h0 : L.size = 0
    · left
      have : L = #[] := Array.eq_empty_of_size_eq_zero h0
      subst this
      refine ⟨rfl, ?_⟩
      simp [choose, Sem.run, Question.forced]
    · right
      have hne : L.isEmpty = false := by simp [Array.isEmpty, h0]
      simp only [hne, Bool.false_eq_true, if_false, Array.empty_append, Array.size_map]
      have hch : ∃ (j : Nat) (w1 : World), j < L.size ∧ w1.heap = w.heap ∧ w1.tape = w.tape ∧ w1.os = w.os ∧ w1.output = w.output ∧ (choose (Question.mapNext L.size)).run P w = .ok j w1 := by
        by_cases hf : L.size ≤ 1
        · exact ⟨0, w, by omega, rfl, rfl, rfl, rfl, by simp [choose, Sem.run, Question.forced, hf]⟩
        · exact ⟨_, w.drew, Nat.mod_lt _ (by omega), rfl, rfl, rfl, rfl, by
            simp only [choose, Sem.run, Question.forced, decide_eq_true_eq, hf, if_false, Question.cut]
            rfl⟩
      obtain ⟨j, w1, hj, g1, g2, g3, g4, hrun⟩ := hch
      refine ⟨L[j], by simp, w1, g1, g2, g3, g4, ?_⟩
      have hset : ∀ (o' : Obj), (setObj b o').run P w1 = .ok () { w1 with heap := w1.heap.setIfInBounds b o' } := fun o' => by simp [setObj, Sem.run, g1, i3]
      simp only [hrun, Array.getElem?_map, Array.getElem?_eq_getElem hj, Option.map_some, Sem.run_bind, hset, Result.andThen]
      rfl
  rw [hex]
  rcases hrun with ⟨g0, g1⟩ | ⟨e, hel, w1, g1, g2, g3, g4, g5⟩
  · simp only [Sem.run_bind, g1, Result.andThen_ok, Sem.run_pure, Oper.uponIn_value]
    refine hn F μ s.H w s.dfs _ _ _ (Stp.refl hr) he.dfs (tup1_vr (cl_v rfl)) (h0 fun c hc => ?_)
    rw [← k4] at hc
    obtain ⟨x, hx, rfl⟩ := List.mem_map.1 hc
    exact (hcont _).1 (all_seen es seen.toArray g0 x hx)
  · simp only [Sem.run_bind, g5, Result.andThen_ok, Sem.run_pure, Oper.uponIn_value]
    obtain ⟨hmem, hns⟩ := mem_left hel
    obtain ⟨i, hi⟩ := List.mem_iff_getElem?.1 hmem
    rw [Array.getElem?_toList] at hi
    have hci : bs[i]? = some e.born := by rw [← k4]; simp [hi]
    have hlt : i < ents.length := by rw [← k3]; exact (Array.getElem?_eq_some_iff.1 hi).1
    obtain ⟨y1, y2, y3⟩ := k7 i e _ hi (List.getElem?_eq_getElem hlt)
    obtain ⟨q1, q2⟩ := hr_obj hr (y := .mi k clock (seen ++ [e.born]) clock) (o := .mapIter (some bm) clock (seen.toArray.push e.born) clock) hoj hμj i4
      (w' := { w1 with heap := w1.heap.setIfInBounds b (.mapIter (some bm) clock (seen.toArray.push e.born) clock) }) (by simp only [g1]) g2 g3 g4 (fun hb => ⟨b, bm, _, hμj, i2, by rw [hb]; simp, i4⟩)
    have hst : Stp F μ s.H w F μ (s.H.set j (.ob (.mi k clock (seen ++ [e.born]) clock))) { w1 with heap := w1.heap.setIfInBounds b (.mapIter (some bm) clock (seen.toArray.push e.born) clock) } :=
      ⟨q2, q1, by simp, fun _ _ => rfl, fun i hi => ⟨obOf_set2 (y := .mk) hoj (by intro e; cases e) _ hi, fun _ e => e⟩⟩
    refine hn F μ _ _ s.dfs _ _ _ hst (hst.adr hr he.dfs) (tup3_vr (cl_v rfl) ?_ (.cl _ _ y3)) (h1 i e.born _ hci (List.getElem?_eq_getElem hlt) (fun hc => by rw [(hcont _).2 hc] at hns; cases hns) y2)
    rw [y1]; exact keyOut_vr kn _ y2
theorem opA_entry {o : Oper} {K : D → List Blk → List AD → Prop} {X : D → List Blk → Prop} {x : Operand} {j k kn clock i c : Nat} {ents : List (List Int × D)} {bs seen : List Nat} {e : List Int × D} (ho : o.op = .entry x) (hx : evo s.env x = some (.b j 0))
    (hj : nthB s.H j = some (.ob (.mi k clock (seen ++ [c]) clock))) (hk : nthB s.H k = some (.ob (.mpx kn ents bs clock))) (hc : bs[i]? = some c) (hent : ents[i]? = some e)
    (h : K (.tup [keyOut kn e.1, e.2]) s.H s.dfs) : OpA P r o s K X := by
  refine ⟨fun F μ a w hr he next Q hn _ => ?_⟩
  obtain ⟨b, mb, hav, hμj⟩ := b0_eval he hx
  have hoj := obOf_nth hj
  have hok := obOf_nth hk
  obtain ⟨b', bm, m', i1, i2, i3, i4⟩ := hr.obj _ _ hoj (by rw [hμj]; simp)
  rw [hμj] at i1; cases i1
  obtain ⟨bm', es, k1, k2, k3, k4, k5, k6, k7, k8⟩ := hr.obj _ _ hok (by rw [i2]; simp)
  rw [i2] at k1; cases k1
  have hlt : i < es.size := by rw [k3]; exact (List.getElem?_eq_some_iff.1 hent).1
  have hei : es[i]? = some es[i] := Array.getElem?_eq_getElem hlt
  have hborn : es[i].born = c := by rw [← k4] at hc; simpa [hei] using hc
  obtain ⟨y1, y2, y3⟩ := k7 i _ _ hei hent
  have hnd : (es.toList.map (·.born)).Nodup := by rw [k4]; exact k6
  have hf : es.find? (·.born == c) = some es[i] := by rw [← Array.find?_toList, ← hborn]; exact find_born _ es.toList hnd (by simp)
  rw [Oper.semAt_eq r a.eval o (fun c e => by rw [ho] at e; cases e)]
  have hrun : (Instr.entry (.pointer (some ⟨b, 0, none⟩))).run P w = .ok (.tuple #[es[i].key, es[i].val]) w := by
    have hback : (seen ++ [c]).toArray.back? = some c := by simp
    simp only [Instr.entry, getObj, Sem.run_bind, Sem.run, i3, k2, Result.andThen, hback, bne_self_eq_false, Bool.false_eq_true, if_false, hf]
    rfl
  have hex : (execOp a.eval o).run P w = .ok (.value (.tuple #[es[i].key, es[i].val])) w := by
    unfold execOp
    rw [ho]
    simp only [hav, Sem.run_bind, hrun, Result.andThen_ok, Sem.run_pure]
  rw [hex, Oper.uponIn_value]
  refine hn F μ s.H w s.dfs _ _ _ (Stp.refl hr) he.dfs (tup2_vr ?_ (.cl _ _ y3)) h
  rw [y1]; exact keyOut_vr kn _ y2
theorem gs_unrange {K : St → Prop} {k kn clock : Nat} {ents : List (List Int × D)} {bs : List Nat} (hk : nthB s.H k = some (.ob (.mpx kn ents bs clock))) (hh : GS m K { s with H := s.H.set k (.ob (.mp kn ents)) }) : GS m K s :=
  gs_trans (s' := { s with H := s.H.set k (.ob (.mp kn ents)) }) (fun F μ a w h => by
    have hob := obOf_nth hk
    by_cases hn : μ k = none
    · -- promised, not made: nothing is said
      refine ⟨F, μ, ?_⟩
      have hkl := obOf_lt hob
      have hset : ∀ j, (s.H.set k (Blk.ob (.mp kn ents)))[j]? = if j = k then some (Blk.ob (.mp kn ents)) else s.H[j]? := fun j => by
        have := setB_get (H := s.H) (Blk.ob (.mp kn ents)) (Nat.le_of_lt hkl) j
        rwa [setB, if_pos hkl] at this
      have := hr_on (μ' := μ) (w' := w) (H' := s.H.set k (.ob (.mp kn ents))) (fun j => j = k) h.hr (by simp) (fun j hj => by rw [hset, if_neg hj]) (fun j _ => rfl) (fun j b _ => Iff.rfl) (fun _ _ _ h => h) (Nat.le_refl _) rfl rfl rfl
        (fun b' hb' hn => rfl) (fun k' b' hk' _ hf => .inl ⟨k, rfl, live_ob hob, by subst hk'; exact hf⟩) (fun k1 k2 b h1 h2 _ _ _ _ => h1.trans h2.symm)
        (fun k' hk' hle' => by subst hk'; simp at hle'; omega) (fun _ k' sz1 es1 hk' hb1 hne => by subst hk'; exact absurd hn hne) (fun k' z hk' hb1 b => by subst hk'; rw [blkOf_at (by rw [hset, if_pos rfl])] at hb1; cases hb1)
        (fun _ k' z hk' hz hnv => by
          subst hk'
          rw [obOf_at (by rw [hset, if_pos rfl])] at hz; cases hz
          exact absurd hn hnv) (fun k' hk' he => by subst hk'; exact h.hr.non _ hn) (fun k' z hk' hz => by
          subst hk'; rw [hset, if_pos rfl] at hz; cases hz; exact fun _ _ e => by cases e)
      exact ⟨this.2.1, .ob (fun i hi => obOf_set2 (y := .mk) hob (by intro e; cases e) _ hi), ⟨this.1, ⟨h.er.env, h.er.nt, h.er.dfs.mono (fun _ _ _ e => e) (fun _ _ e => e) (fun j hj => ⟨obOf_set2 (y := .mk) hob (by intro e; cases e) _ hj, fun _ e => e⟩)⟩, by simpa using h.len⟩⟩
    · obtain ⟨b, es, k1, k2, k3, k4, k5, k6, k7, k8⟩ := h.hr.obj _ _ hob hn
      have hlt : ∀ (i : Nat) (e : MapEntry), es[i]? = some e → bs[i]? = some e.born := fun i e he => by rw [← k4]; simp [he]
      obtain ⟨q1, q2⟩ := hr_obj h.hr (y := .mp kn ents) (o := .map es clock) hob k1 k8 (w' := w) (set_same k2) rfl rfl rfl (fun hb => ⟨b, es, clock, k1, hb, k3, fun i e he => k5 _ (List.mem_of_getElem? (hlt i e he)), fun i j e e' he he' hbb => by
        have h1 := hlt i e he
        have h2 := hlt j e' he'
        rw [← hbb] at h2
        obtain ⟨hi, g1⟩ := List.getElem?_eq_some_iff.1 h1
        obtain ⟨hj, g2⟩ := List.getElem?_eq_some_iff.1 h2
        exact (List.getElem_inj k6).1 (g1.trans g2.symm), k7, k8⟩)
      exact ⟨F, μ, q2, .ob (fun i hi => obOf_set2 (y := .mk) hob (by intro e; cases e) _ hi), ⟨q1, ⟨h.er.env, h.er.nt, h.er.dfs.mono (fun _ _ _ e => e) (fun _ _ e => e) (fun j hj => ⟨obOf_set2 (y := .mk) hob (by intro e; cases e) _ hj, fun _ e => e⟩)⟩, by simpa using h.len⟩⟩) hh
theorem opA_lenMap (hT : TOK P T) {o : Oper} {K : D → List Blk → List AD → Prop} {X : D → List Blk → Prop} {x : Operand} {t kt et : TypeId} {k kn : Nat} {ents : List (List Int × D)} (ho : o.op = .call { callee := .builtin .len, args := #[x], argTypes := #[t] })
    (hu : P.underlying t = some (.map kt et)) (hx : evo s.env x = some (.mv k)) (hk : nthB s.H k = some (.ob (.mp kn ents))) (h : K (.v (.int .i64 ents.length)) s.H s.dfs) : OpA P r o s K X := by
  refine ⟨fun F μ a w hr he next Q hn _ => ?_⟩
  have hxv := he.evo hx
  obtain ⟨b, mm, hav, hμ⟩ : ∃ b m, a.eval x = .map (some b) ∧ μ k = some (some (b, m)) := by
    generalize a.eval x = v at hxv
    cases hxv with | cl _ _ hc => cases hc | mv _ b m hμ => exact ⟨b, m, rfl, hμ⟩
  obtain ⟨b', es, clock, o1, o2, o3, -⟩ := hr.obj _ _ (obOf_nth hk) (by rw [hμ]; simp)
  rw [hμ] at o1; cases o1
  have hgo : (getObj b).run P w = .ok (.map es clock) w := by simp [getObj, Sem.run, o2]
  rw [Oper.semAt_eq r a.eval o (fun c e => by rw [ho] at e; cases e)]
  have hex : (execOp a.eval o).run P w = .ok (.value (.int .i64 ents.length)) w := by
    unfold execOp
    rw [ho]
    have e : Array.map a.eval #[x] = #[a.eval x] := by simp
    simp only [resolve, Sem.run_bind, Sem.run_pure, Result.andThen_ok, invoke, builtin, e, hav]
    simp [Builtin.len_, run_underlying hu w, hgo, goInt, o3]
  rw [hex, Oper.uponIn_value]
  exact hn F μ s.H w s.dfs _ _ _ (Stp.refl hr) he.dfs (.cl _ _ (.v _ rfl)) h
theorem ops_of {S : Stop} (hS : S = theStop P r m) {i : Nat} {l : List Nat} {o : Oper} (hoi : ops[i]? = some o) (hd : dstOk s.nt o.dst = true) (hg : o.guard = none)
    (h : OpA P r o s (fun d H' ds => OpsA P r m ops Q l (s.step o.dst d H' ds)) (fun d H' => ∀ e, (∀ t d, getE e t = some d → getE s.env t = some d) → Q (.pan d) { s with env := e, H := H' })) : S.ops ops Q (i :: l) s := by
  subst hS
  refine opsA_cons hoi hd ?_
  simp only [guardA, hg]
  exact h
end
end Go.Abs

namespace Go.Abs
open Go
def ModeOf (F : Fz) (μ : Mu) : Option D → FrameMode → Prop
  | none, md => md = .returning
  | some d, md => ∃ v, md = .panicking [{ v := v, recovered := false }] ∧ VR F μ d v
structure CallD (P : Program) (f : FuncId) (as : List D) (H : List Blk) (u : Option D) (Q : List Blk → Prop) : Prop where
  fn : ∃ fn, P.funcs[f]? = some fn ∧ fn.body.isSome = true ∧ (fn.name == "runtime.NumGoroutine") = false
  out : ∀ F μ (vs : Array Value) w md, HR F μ H w → as.length = vs.size → (∀ (i : Nat) (d : D) (v : Value), as[i]? = some d → vs[i]? = some v → VR F μ d v) → ModeOf F μ u md →
    CallsDIn (Fc none) 0 P f vs md w fun e u' w' => (∃ v, e = .returned v) ∧ settle u' = .returning ∧ ∃ F' μ' H', Stp F μ H w F' μ' H' w' ∧ Q H'
structure LeaveD (P : Program) (T : TT) (rs : List ResultVar) (Q : RA → List Blk → Prop) (u : Option D) (s : St) : Prop where
  out : ∃ g caps as as' ix Hf, s.dfs = [.fn g caps as] ∧ renL (rho ix s.H.length) as' = as ++ caps ∧ ix.Nodup ∧ lentG (rho ix s.H.length) s.H ix Hf ∧ (∀ d, u = some d → frD d = true) ∧
    CallD P g as' Hf u (fun Hf' => resA ar T { s with H := mergeH s.H ix Hf', dfs := [] } (fun d => Q (.ret d) (mergeH s.H ix Hf')) rs)
def BodyD (P : Program) (T : TT) (rs : List ResultVar) (Q : RA → List Blk → Prop) : AX → St → Prop
  | .normal, s => LeaveD P T rs Q none s
  | .ret, s => LeaveD P T rs Q none s
  | .pan d, s => LeaveD P T rs Q (some d) s
  | _, _ => False
section
variable {P : Program} {T : TT} {F : Fz} {μ : Mu} {w : World} {r : Option Nat} {m : Nat} {ops : Array Oper} {Q : AX → St → Prop} {s : St}
theorem opA_panic {o : Oper} {K : D → List Blk → List AD → Prop} {X : D → List Blk → Prop} {x : Operand} {t : TypeId} {d : D} (ho : o.op = .panic x) (hx : evo s.env x = some (.ifc t d)) (h : X (.ifc t d) s.H) : OpA P r o s K X := by
  refine ⟨fun F μ a w hr he next Q hn hp => ?_⟩
  have hv := he.evo hx
  obtain ⟨v, hav, -⟩ := hv.ifc_inv
  rw [Oper.semAt_eq r a.eval o (fun c e => by rw [ho] at e; cases e)]
  have hex : (execOp a.eval o).run P w = .halt (.panic (.iface t v)) w := by
    unfold execOp
    rw [ho]
    simp only [hav, Instr.panic, goPanic, Sem.run_bind]
    rfl
  rw [hex]
  show Q (.panic [{ v := .iface t v, recovered := false }]) a w
  rw [hav] at hv
  exact hp F μ s.H w _ _ (Stp.refl hr) hv h
theorem opA_defer {o : Oper} {K : D → List Blk → List AD → Prop} {X : D → List Blk → Prop} {c : Call} {fo : Operand} {f : FuncId} {caps as : List D} (ho : o.op = .defer c) (hc : c.callee = .value fo) (hfo : evo s.env fo = some (.fn f caps))
    (has : allSome (c.args.toList.map (evo s.env)) = some as) (h : K (.tup []) s.H (.fn f caps as :: s.dfs)) : OpA P none o s K X := by
  refine ⟨fun F μ a w hr he next Q hn hp => ?_⟩
  have hfv := he.evo hfo
  have fnv : ∀ y, VR F μ (.fn f caps) y → ∃ caps' : Array Value, y = .func (.func f) #[] caps' ∧ caps.length = caps'.size ∧ ∀ (i : Nat) (c : D) (v : Value), caps[i]? = some c → caps'[i]? = some v → VR F μ c v := fun y hfv => by
    cases hfv with
    | cl _ _ hc => cases hc with | fn _ _ vs hl h => exact ⟨vs, rfl, hl, fun i c v h1 h2 => .cl _ _ (h i c v h1 h2)⟩
    | fn _ _ vs hl h => exact ⟨vs, rfl, hl, h⟩
  obtain ⟨caps', hfe, hcl, hcv⟩ := fnv _ hfv
  have hav := opsVR he has
  have hex : (Oper.semAt none a.eval o).run P w = .ok (.defer { target := .fn (.func f) caps', args := c.args.map a.eval }) w := by
    rw [Oper.semAt_none]
    unfold execOp
    rw [ho]
    simp only [resolve, hc, hfe, Deferred.ofValue, Sem.run_bind, Sem.run_pure, Result.andThen_ok, Array.empty_append]
  rw [hex, Oper.uponIn_defer]
  have hlen : as.length = (c.args.map a.eval).size := by have := hav.len; simpa using this
  exact hn F μ s.H w (.fn f caps as :: s.dfs) _ (.tup []) undef (Stp.refl hr) ⟨caps', _, a.defers, rfl, ⟨hcl, hcv⟩, ⟨hlen, fun i d v h1 h2 => hav.get i d v h1 (by simpa [← Array.getElem?_toList] using h2)⟩, he.dfs⟩ undef_vr h
theorem callA_bodyD (hT : TOK P T) {f : FuncId} {fn : Func} {c : Code} (hf : P.funcs[f]? = some fn) (hb : fn.body = some c) (hnm : (fn.name == "runtime.NumGoroutine") = false) {as : List D} {H : List Blk} {Q : RA → List Blk → Prop} (hnt : Nat.ble as.length fn.ntmps = true)
    (h : WpA P none H.length c (BodyD P T fn.results.toList Q) { env := argE 0 as, H := H, nt := fn.ntmps, dfs := [] }) : CallA P f as H Q := by
  refine ⟨⟨fn, hf, by rw [hb]; rfl, hnm⟩, fun F μ vs w hr hl hv => ?_⟩
  have hle := Nat.le_of_ble_eq_true hnt
  refine callsIn_of_wp_defers hf hb trivial (wpIn_mono (h.out F μ _ w ⟨hr, ⟨fun t d ht => ?_, ?_, rfl⟩, Nat.le_refl _⟩) fun e a' w' hp => ?_)
  · obtain ⟨-, h2⟩ := argE_get 0 as t d ht
    rw [Nat.sub_zero] at h2
    have hlt : t < vs.size := by rw [← hl]; exact (List.getElem?_eq_some_iff.1 h2).1
    refine ⟨vs[t], ?_, hv t d _ h2 (Array.getElem?_eq_getElem hlt)⟩
    rw [Array.getElem?_append_left hlt, Array.getElem?_eq_getElem hlt]
  · simp; omega
  · obtain ⟨F', μ', s', x, p1, p2, p3, p4, p5⟩ := hp
    have hs : Stp F μ H w F' μ' s'.H w' := ⟨p1, p3.hr, p3.len, p2.same, fun k hk => p2.mks k (obOf_lt hk) hk⟩
    have fin : ∀ (u : Option D) (md : FrameMode), LeaveD P T fn.results.toList Q u s' → md ≠ .run → (∀ {ix : List Nat}, (∀ d, u = some d → frD d = true) → ModeOf F' (μ'.ren (rho ix s'.H.length)) u md) →
        LeavesIn (Fc none) 0 P fn a'.tmps (PostR F μ H w Q) a'.defers md w' := fun u md hld hmd hmode => by
      obtain ⟨g, caps, as1, as', ix, Hf, e1, e2, e3, e4, e5, e6⟩ := hld.out
      have hds := p3.er.dfs
      rw [e1] at hds
      obtain ⟨cv, av, ds', d1, ⟨d2, d2'⟩, ⟨d3, d3'⟩, d4⟩ := hds
      replace d4 : ds' = [] := d4
      subst d4
      rw [d1]
      have hlent : Lent s'.H ix Hf := ⟨e3, (lentG_sound e4).1, (lentG_sound e4).2, lent_fr (lentG_sound e4).1 (lentG_sound e4).2 p3.hr⟩
      obtain ⟨gn, g1, g2, g3⟩ := e6.fn
      have hcall := e6.out F' (μ'.ren (rho ix s'.H.length)) (av ++ cv) w' md (hr_down hlent p3.hr) (by
          have h1 := congrArg List.length e2
          rw [renL_length] at h1
          rw [h1]; simp; omega) (fun i d v hd hv => by
          have h1 : (as1 ++ caps)[i]? = some (renD (rho ix s'.H.length) d) := by rw [← e2, renL_get, hd]; rfl
          refine ren_vr_down ?_ d rfl
          by_cases hi : i < as1.length
          · rw [List.getElem?_append_left hi] at h1
            rw [Array.getElem?_append_left (by omega)] at hv
            exact d3' i _ v h1 hv
          · rw [List.getElem?_append_right (by omega)] at h1
            rw [Array.getElem?_append_right (by omega)] at hv
            refine d2' (i - as1.length) _ v h1 ?_
            rw [← hv]; congr 1; omega) (hmode e5)
      refine leavesIn_cons (f := g) (args := av ++ cv) hmd (fun h => by cases h) ?_ (fun _ _ => trivial) (hcall.mono fun e u' w'' he => ?_)
      · show (callFunc g (av ++ cv)).run P w' = _
        exact run_callFunc g1 g2 g3 _ _
      · obtain ⟨⟨v, rfl⟩, hset, F2, μ2, H2, hstp, hq⟩ := he
        show LeavesIn (Fc none) 0 P fn a'.tmps (PostR F μ H w Q) [] (settle u') w''
        rw [hset]
        have hst := merge_stp hlent p3.hr hstp
        obtain ⟨d, v, r1, r2, r3⟩ := resA_sound (s := { s' with H := mergeH s'.H ix H2, dfs := [] }) (a := { a' with defers := [] }) hT hst.hr ⟨fun t x ht => let ⟨y, y1, y2⟩ := p3.er.env t x ht; ⟨y, y1, hst.vr p3.hr y2⟩, p3.er.nt, rfl⟩ hq
        exact ⟨v, r1, F2, _, _, d, hs.trans hst, r2, r3⟩
    cases e <;> cases x <;> try exact p4.elim
    case normal.normal => exact fin none .returning p5 (by simp) (fun _ => rfl)
    case ret.ret => exact fin none .returning p5 (by simp) (fun _ => rfl)
    case panic.pan ch d =>
      obtain ⟨v, rfl, g2⟩ := p4
      exact fin (some d) _ p5 (by simp) (fun hfr => ⟨v, rfl, .cl _ _ (fr_cr g2 (hfr d rfl))⟩)
    all_goals exact p5.elim
end
end Go.Abs

namespace Go.Abs
open Go
section
variable {P : Program} {T : TT}
theorem wpOpsS_rec {F : Fence} {n : Nat} {ops : Array Oper} {Q : Exit → Act → List Frame → World → Prop} {i : Nat} {rest : List Nat} {a : Act} {cs cs' : List Frame} {w w' : World} {o : Oper} {y : Value} (ho : ops[i]? = some o) (hab : ∀ f, o.about P w a.eval = some f → F.fn f) (hg : Region.wanted o (yielded ops a.tmps) = true)
    (hr : (execOp a.eval o).run P w = .ok .recover w') (hrec : recoverD cs = some (y, cs') ∨ (recoverD cs = none ∧ y = .nilIface ∧ cs' = cs)) (h : wpOpsSIn F n P ops Q rest (a.put o.dst y) cs' w') : wpOpsSIn F n P ops Q (i :: rest) a cs w := by
  simp only [wpOpsSIn, ho]
  refine ⟨hab, ?_⟩
  rw [if_pos hg, hr]
  rcases hrec with g | ⟨g, e1, e2⟩
  · simp only [g]; exact h
  · subst e1 e2
    simp only [g]; exact h
theorem wpOpsS_val {F : Fence} {n : Nat} {ops : Array Oper} {Q : Exit → Act → List Frame → World → Prop} {i : Nat} {rest : List Nat} {a : Act} {cs : List Frame} {w w' : World} {o : Oper} {v : Value} (ho : ops[i]? = some o) (hab : ∀ f, o.about P w a.eval = some f → F.fn f) (hg : Region.wanted o (yielded ops a.tmps) = true)
    (hr : (execOp a.eval o).run P w = .ok (.value v) w') (h : wpOpsSIn F n P ops Q rest (a.put o.dst v) cs w') : wpOpsSIn F n P ops Q (i :: rest) a cs w := by
  simp only [wpOpsSIn, ho]
  refine ⟨hab, ?_⟩
  rw [if_pos hg, hr]
  exact h
def recPost (Q : List Blk → Prop) : AX → St → Prop
  | .normal, s => s.dfs = [] ∧ Q s.H
  | .ret, s => s.dfs = [] ∧ Q s.H
  | _, _ => False
theorem callD_rec {g id : Nat} {fn : Func} {o1 o2 : Oper} {rest : Code} {t1 t2 : Nat} (hf : P.funcs[g]? = some fn) (hb : fn.body = some (.seq (.region id #[o1, o2] false) rest)) (hnm : (fn.name == "runtime.NumGoroutine") = false)
    (ho1 : o1.op = .call { callee := .builtin .recover, args := #[], argTypes := #[] }) (hd1 : o1.dst = some t1) (hg1 : o1.guard = none) (ho2 : o2.op = .assign (.tmp t1)) (hd2 : o2.dst = some t2) (hg2 : o2.guard = none) (hres : fn.results = #[])
    {as : List D} {H : List Blk} {u : Option D} {Q : List Blk → Prop} (hnt : Nat.ble as.length fn.ntmps = true) (h1 : Nat.blt t1 fn.ntmps = true) (h2 : Nat.blt t2 fn.ntmps = true) (x : D) (hx : x = u.getD (.v .nilIface))
    (h : WpA P none H.length rest (recPost Q) { env := putE (putE (argE 0 as) (some t1) x) (some t2) x, H := H, nt := fn.ntmps, dfs := [] }) : CallD P g as H u Q := by
  refine ⟨⟨fn, hf, by rw [hb]; rfl, hnm⟩, fun F μ vs w md hr hl hv hmd => ?_⟩
  have hle := Nat.le_of_ble_eq_true hnt
  refine callsDIn_of_wpSIn hf hb trivial fun c₀ cs hu => ?_
  have her0 : ER F μ { env := argE 0 as, H := H, nt := fn.ntmps, dfs := [] } { tmps := vs ++ Array.replicate (fn.ntmps - vs.size) undef, defers := [] } := by
    refine ⟨fun t d ht => ?_, by simp; omega, rfl⟩
    obtain ⟨-, g2⟩ := argE_get 0 as t d ht
    rw [Nat.sub_zero] at g2
    have hlt : t < vs.size := by rw [← hl]; exact (List.getElem?_eq_some_iff.1 g2).1
    refine ⟨vs[t], ?_, hv t d _ g2 (Array.getElem?_eq_getElem hlt)⟩
    rw [Array.getElem?_append_left hlt, Array.getElem?_eq_getElem hlt]
  generalize ha0 : ({ tmps := vs ++ Array.replicate (fn.ntmps - vs.size) undef, defers := [] } : Act) = a0 at her0 ⊢
  -- what recover gives, and how the frame below is then
  obtain ⟨y, md', hvy, hset, hrec⟩ : ∃ (y : Value) (md' : FrameMode), VR F μ x y ∧ settle md' = .returning ∧ ((recoverD (c₀ :: cs) = some (y, { c₀ with mode := md' } :: cs)) ∨ (recoverD (c₀ :: cs) = none ∧ y = .nilIface ∧ md' = c₀.mode)) := by
    cases u with
    | none =>
      have hmd' : md = .returning := hmd
      refine ⟨.nilIface, .returning, by subst hx; exact cl_v rfl, rfl, .inr ⟨?_, rfl, by rw [hu, hmd']⟩⟩
      simp [recoverD, hu, hmd']
    | some d =>
      obtain ⟨v, e1, e2⟩ := hmd
      refine ⟨v, .panicking [{ v := v, recovered := true }], by subst hx; exact e2, rfl, .inl ?_⟩
      simp [recoverD, hu, e1]
  have hst : Stp F μ H w F μ H w := Stp.refl hr
  have her1 := er_put (dst := some t1) her0 hr hst hvy (by exact h1) (ds := []) (dv := a0.defers) (by have := her0.dfs; exact this)
  have her2 := er_put (dst := some t2) her1 hr hst hvy (by exact h2) (ds := []) (dv := a0.defers) (by have := her0.dfs; exact this)
  have hlt1 : t1 < a0.tmps.size := by rw [her0.nt]; exact Nat.le_of_ble_eq_true h1
  have hev : (({ a0 with defers := a0.defers } : Act).put (some t1) y).eval (.tmp t1) = y := by
    show ((a0.tmps.setIfInBounds t1 y).getD t1 undef) = y
    simp [Array.getD, hlt1]
  refine wpSIn_seq (wpSIn_region ?_)
  have hrun1 : (execOp a0.eval o1).run P w = .ok .recover w := by
    unfold execOp; rw [ho1]; rfl
  have fin : ∀ a2 : Act, ER F μ { env := putE (putE (argE 0 as) (some t1) x) (some t2) x, H := H, nt := fn.ntmps, dfs := [] } a2 → rest.wpSIn (Fc none) 0 P (bodyPostS P fn c₀ cs fun e u' w' => (∃ v, e = .returned v) ∧ settle u' = .returning ∧ ∃ F' μ' H', Stp F μ H w F' μ' H' w' ∧ Q H') a2 ({ c₀ with mode := md' } :: cs) w := fun a2 her => by
    refine wpSIn_of_wpIn rfl (wpIn_mono (h.out F μ a2 w ⟨hr, her, Nat.le_refl _⟩) fun e a' w' hp => ?_)
    obtain ⟨F', μ', s', ax, p1, p2, p3, p4, p5⟩ := hp
    have stp : Stp F μ H w F' μ' s'.H w' := ⟨p1, p3.hr, p3.len, p2.same, fun k hk => p2.mks k (obOf_lt hk) hk⟩
    have leave : s'.dfs = [] → Q s'.H → a'.defers = [] ∧ ∃ u', ({ c₀ with mode := md' } :: cs : List Frame) = { c₀ with mode := u' } :: cs ∧ ∃ v, (results fn a'.tmps).run P w' = .ok v w' ∧ (∃ v', Ending.returned v = .returned v') ∧ settle u' = .returning ∧ ∃ F' μ' H', Stp F μ H w F' μ' H' w' ∧ Q H' := fun g1 g2 => by
      have hds := p3.er.dfs
      rw [g1] at hds
      refine ⟨hds, md', rfl, .tuple #[], ?_, ⟨_, rfl⟩, hset, F', μ', s'.H, stp, g2⟩
      simp [results, hres]
    cases e <;> cases ax <;> try exact p4.elim
    case normal.normal => exact leave p5.1 p5.2
    case ret.ret => exact leave p5.1 p5.2
    all_goals exact p5.elim
  have hrun2 : ∀ a1 : Act, (execOp a1.eval o2).run P w = .ok (.value (a1.eval (.tmp t1))) w := fun a1 => by
    unfold execOp; rw [ho2]; rfl
  have hw : ∀ (o : Oper) (l : Array Value), o.guard = none → Region.wanted o (yielded #[o1, o2] l) = true := fun o l hg => by
    unfold Region.wanted; rw [hg]
  have hab : ∀ (o : Oper) (a1 : Act), ∀ f, o.about P w a1.eval = some f → (Fc none).fn f := fun _ _ _ _ => trivial
  refine wpOpsS_rec (i := 0) (rest := [1]) (o := o1) (y := y) (cs' := { c₀ with mode := md' } :: cs) rfl (hab o1 a0) (hw o1 _ hg1) hrun1 ?_ ?_
  · rcases hrec with g | ⟨g, e1, e2⟩
    · exact .inl g
    · exact .inr ⟨g, e1, by rw [e2]⟩
  refine wpOpsS_val (i := 1) (rest := []) (o := o2) rfl (hab o2 _) (hw o2 _ hg2) (hrun2 _) ?_
  refine fin _ ?_
  rw [hd1, hd2]
  have : (a0.put (some t1) y).eval (.tmp t1) = y := hev
  rw [this]
  exact her2
end
end Go.Abs

namespace Go.Abs
open Go
section
variable {P : Program} {T : TT} {r : Option Nat} {m : Nat} {ops : Array Oper} {Q : AX → St → Prop} {s : St}
def readyB2 (ops : Array Oper) (i j : Nat) (L : List Nat) : Bool := allB (fun i' => match ops[i']? with | some o' => anyB (fun e => nmem (i :: j :: L) e) (ons o') | none => true) L
theorem readyB2_sound {i j : Nat} {L : List Nat} (h : readyB2 ops i j L = true) : ∀ i' ∈ L, ∀ o', ops[i']? = some o' → ∃ e ∈ ons o', e = i ∨ e = j ∨ e ∈ L := fun i' hi o' ho => by
  have h1 := allB_iff.1 h i' hi
  simp only [ho] at h1
  obtain ⟨e, he, h2⟩ := anyB_iff h1
  refine ⟨e, he, ?_⟩
  have := (nmem_eq _ _).1 h2
  simpa using this
theorem draw_two (hT : TOK P T) {A : Ar} (hA : A = ar) {Dk : List Nat → List (Nat × PK) → St → Prop} (hD : Dk = DrawA P T r m ops Q) {i j : Nat} {L : List Nat} {pend : List (Nat × PK)} {o o2 : Oper}
    (hoi : ops[i]? = some o) (hoj : ops[j]? = some o2) (hd : dstOk s.nt o.dst = true) (hd2 : dstOk s.nt o2.dst = true) (hlk : looksB ops o pend = true) (hlk2 : looksB ops o2 pend = true) (hw : writesB ops o (dropP o pend) = true) (hw2 : writesB ops o2 (dropP o2 pend) = true)
    (hrd : readyB2 ops i j L = true) (hg : o.guard = none) (hg2 : o2.guard = none)
    (h : wA A T (s.only (o.looksAt ops)) (fun d H' => pinsA A T ops (s.step o.dst (d.getD (.tup [])) H' s.dfs) (dropP o pend) ∧ Dk (j :: L) (dropP o pend) (s.step o.dst (d.getD (.tup [])) H' s.dfs)) o.op)
    (h2 : wA A T (s.only (o2.looksAt ops)) (fun d H' => pinsA A T ops (s.step o2.dst (d.getD (.tup [])) H' s.dfs) (dropP o2 pend) ∧ Dk (i :: L) (dropP o2 pend) (s.step o2.dst (d.getD (.tup [])) H' s.dfs)) o2.op) : Dk (i :: j :: L) pend s := by
  subst hA; subst hD
  have w1 := writesB_sound hw
  have w2 := writesB_sound hw2
  refine .two (K := fun d H' ds => pinsA ar T ops (s.step o.dst d H' ds) (dropP o pend) ∧ DrawA P T r m ops Q (j :: L) (dropP o pend) (s.step o.dst d H' ds)) (K2 := fun d H' ds => pinsA ar T ops (s.step o2.dst d H' ds) (dropP o2 pend) ∧ DrawA P T r m ops Q (i :: L) (dropP o2 pend) (s.step o2.dst d H' ds))
    (dropP o pend) (dropP o2 pend) hoi hoj hd hd2 (looksB_sound hlk) (looksB_sound hlk2) w1 w2 (fun u hu => dropP_mem u hu) (fun u hu => dropP_mem u hu) (readyB2_sound hrd) ?_ ?_
    (fun d H' ds hK u hu hok => pok_pin (fun o' t h1 h2 => w1.out u hu o' t h1 h2) hok (pinsA_mem hK.1 u hu)) (fun d H' ds hK u hu hok => pok_pin (fun o' t h1 h2 => w2.out u hu o' t h1 h2) hok (pinsA_mem hK.1 u hu)) (fun d H' ds hK => hK.2) (fun d H' ds hK => hK.2)
  · simp only [guardA, hg]
    exact (opA_w (P := P) (r := r) (o := o) (s := s.only (o.looksAt ops)) (K := fun d H' ds => pinsA ar T ops (s.step o.dst d H' ds) (dropP o pend) ∧ DrawA P T r m ops Q (j :: L) (dropP o pend) (s.step o.dst d H' ds)) (X := fun _ _ => False) hT h).mono (fun d H ds hk => hk) (fun _ _ h => h.elim)
  · simp only [guardA, hg2]
    exact (opA_w (P := P) (r := r) (o := o2) (s := s.only (o2.looksAt ops)) (K := fun d H' ds => pinsA ar T ops (s.step o2.dst d H' ds) (dropP o2 pend) ∧ DrawA P T r m ops Q (i :: L) (dropP o2 pend) (s.step o2.dst d H' ds)) (X := fun _ _ => False) hT h2).mono (fun d H ds hk => hk) (fun _ _ h => h.elim)
end
end Go.Abs

/- Part MachG of the proofs about the benches of the accordion maker: see the last text of the claim for what is proved. -/
import Derived.Test.YtmloogdalecilaaDoorMachF
set_option linter.unusedVariables false
set_option linter.unusedSimpArgs false
set_option linter.unnecessarySimpa false
set_option linter.constructorNameAsVariable false

/-! A64 -/
namespace Go.Abs
open Go

/-- The elements: el j c is the element at j whose cell is c. -/
def shopE (isz : Nat) (el : Nat → D → D) (xs : List Value) (rows : List (List D)) (fz : Nat → Bool) : List D := (List.range xs.length).map fun j => el j (if fz j then .sl isz (rows.getD j []) else .v (xs.getD j nilS))
def shopN (xs : List Value) (rows : List (List D)) (fz : Nat → Bool) : List Ent := (List.range xs.length).map fun j => (xs.getD j nilS, if fz j then none else some (rows.getD j []))

theorem shopE_len (isz el xs rows fz) : (shopE isz el xs rows fz).length = xs.length := by simp [shopE]
theorem shopN_len (xs rows fz) : (shopN xs rows fz).length = xs.length := by simp [shopN]
theorem shopE_get {isz el} {xs : List Value} {rows fz j} (h : j < xs.length) : (shopE isz el xs rows fz)[j]? = some (el j (if fz j then .sl isz (rows.getD j []) else .v (xs.getD j nilS))) := by simp [shopE, h]
theorem shopN_get {xs : List Value} {rows fz j} (h : j < xs.length) : (shopN xs rows fz)[j]? = some (xs.getD j nilS, if fz j then none else some (rows.getD j [])) := by simp [shopN, h]

theorem shopE_upd {isz : Nat} {el el' : Nat → D → D} {xs xs' : List Value} {rows rows' : List (List D)} {fz fz' : Nat → Bool} {t : Nat} {d : D} (hl : xs'.length = xs.length) (hel : ∀ j, j ≠ t → el' j = el j) (hx : ∀ j, j ≠ t → xs'.getD j nilS = xs.getD j nilS)
    (hr : ∀ j, j ≠ t → rows'.getD j [] = rows.getD j []) (hf : ∀ j, j ≠ t → fz' j = fz j) (hd : d = el' t (if fz' t then .sl isz (rows'.getD t []) else .v (xs'.getD t nilS))) : (shopE isz el xs rows fz).set t d = shopE isz el' xs' rows' fz' := by
  refine List.ext_getElem? fun j => ?_
  by_cases hj : j < xs.length
  · rw [shopE_get (by omega), List.getElem?_set]
    by_cases e : t = j
    · subst e; rw [if_pos rfl, if_pos (by rw [shopE_len]; exact hj), hd]
    · have e' : j ≠ t := fun h => e h.symm
      rw [if_neg e, shopE_get hj, hel j e', hx j e', hr j e', hf j e']
  · rw [List.getElem?_eq_none (by rw [List.length_set, shopE_len]; omega), List.getElem?_eq_none (by rw [shopE_len]; omega)]
theorem shopN_upd {xs xs' : List Value} {rows rows' : List (List D)} {fz fz' : Nat → Bool} {t : Nat} {d : Ent} (hl : xs'.length = xs.length) (hx : ∀ j, j ≠ t → xs'.getD j nilS = xs.getD j nilS)
    (hr : ∀ j, j ≠ t → rows'.getD j [] = rows.getD j []) (hf : ∀ j, j ≠ t → fz' j = fz j) (hd : d = (xs'.getD t nilS, if fz' t then none else some (rows'.getD t []))) : (shopN xs rows fz).set t d = shopN xs' rows' fz' := by
  refine List.ext_getElem? fun j => ?_
  by_cases hj : j < xs.length
  · rw [shopN_get (by omega), List.getElem?_set]
    by_cases e : t = j
    · subst e; rw [if_pos rfl, if_pos (by rw [shopN_len]; exact hj), hd]
    · have e' : j ≠ t := fun h => e h.symm
      rw [if_neg e, shopN_get hj, hx j e', hr j e', hf j e']
  · rw [List.getElem?_eq_none (by rw [List.length_set, shopN_len]; omega), List.getElem?_eq_none (by rw [shopN_len]; omega)]
theorem shopE_fr {isz : Nat} {el : Nat → D → D} {xs : List Value} {rows : List (List D)} {fz : Nat → Bool} (hel : ∀ j c, frD c = true → frD (el j c) = true) : FrL (shopE isz el xs rows fz) := ⟨fun d hd => by
  obtain ⟨j, -, rfl⟩ := List.mem_map.1 hd
  refine hel j _ ?_
  split <;> rfl⟩

theorem getD_setV {xs : List Value} {t : Nat} {x : Value} (ht : t < xs.length) (j : Nat) : (xs.set t x).getD j nilS = if j = t then x else xs.getD j nilS := by
  rw [List.getD_eq_getElem?_getD, List.getElem?_set]
  by_cases e : t = j
  · subst e; rw [if_pos rfl, if_pos ht, if_pos rfl]; rfl
  · rw [if_neg e, if_neg (fun h => e h.symm), List.getD_eq_getElem?_getD]

section
variable {m : Nat} {K : St → Prop} {s : St}

/-- A row is taken out; L is the place where it comes to lie. -/
theorem shop_take (k kg t L : Nat) {esz isz fi : Nat} {el : Nat → D → D} {xs : List Value} {rows : List (List D)} {fz : Nat → Bool} (hL : L = s.H.length) (hk : nthB s.H k = some (.els esz (shopE isz el xs rows fz))) (hg : nthB s.H kg = some (.ob (.gr isz (shopN xs rows fz)))) (hne : k ≠ kg)
    (ht : t < xs.length) (hf : fz t = false) {r : List D} (hr : r = rows.getD t []) (hel1 : ∀ c, (el t c).cells[fi]? = some c) (hel2 : ∀ c c', (el t c').cells = (el t c).cells.set fi c')
    (h : GS m K { s with H := (((s.H.set k (.elo esz (shopE isz el xs rows fz))).set kg (.ob (.gr isz ((shopN xs rows fz).set t (xs.getD t nilS, none))))).set k (.elo esz ((shopE isz el xs rows fz).set t (el t (.o L isz r.length))))) ++ [.els isz r] }) : GS m K s := by
  have hkl : k < s.H.length := by rw [nthB_eq] at hk; exact (List.getElem?_eq_some_iff.1 hk).1
  refine gs_elo k hk ?_
  have hg' := shopE_get (isz := isz) (el := el) (rows := rows) (fz := fz) ht
  rw [hf, if_neg (by decide)] at hg'
  have hn := shopN_get (rows := rows) (fz := fz) ht
  rw [hf, if_neg (by decide), ← hr] at hn
  refine gs_grTake kg k t t fi (el t (.o L isz r.length)) (ents := shopN xs rows fz) (es := shopE isz el xs rows fz) (d := el t (.v (xs.getD t nilS))) ?_ ?_ hn hg' (hel1 _) ?_ h
  · show nthB (s.H.set k _) kg = _
    rw [nthB_eq, List.getElem?_set_ne hne, ← nthB_eq]; exact hg
  · show nthB (s.H.set k _) k = _
    rw [nthB_eq, List.getElem?_set_self hkl]
  · show _ = (D.cells _).set fi (.o (s.H.set k _).length isz r.length)
    rw [List.length_set, ← hL]; exact hel2 _ _

end
end Go.Abs

/-! A65 -/
namespace Go.Abs
open Go

/-- All that there is, frozen. -/
def snapF (w : World) (hk : w.cell? ⟨0, 0, none⟩ = some hndlV) : Fz := ⟨fun b o => w.cell? ⟨b, o, none⟩, hk⟩

/-- It names no memory. -/
inductive Plain : D → Prop
  | v (x : Value) : Plain (.v x)
  | tup (cs : List D) (h : ∀ c ∈ cs, ∃ x, c = .v x) : Plain (.tup cs)

theorem v_any {F F2 : Fz} {μ μ2 : Mu} {x v : Value} (hv : VR F μ (.v x) v) : VR F2 μ2 (.v x) v := by
  cases hv with
  | cl _ _ h => cases h with | v x ho => exact .cl _ _ (.v x ho)

theorem plain_vr {F F2 : Fz} {μ μ2 : Mu} {d : D} {v : Value} (h : Plain d) (hv : VR F μ d v) : VR F2 μ2 d v := by
  cases h with
  | v x => exact v_any hv
  | tup cs h =>
    have key : ∃ vs, v = .tuple vs ∧ cs.length = vs.size ∧ ∀ (i : Nat) (c : D) (v : Value), cs[i]? = some c → vs[i]? = some v → VR F μ c v := by
      cases hv with
      | cl _ _ h => cases h with | tup _ vs hl h => exact ⟨vs, rfl, hl, fun i c v h1 h2 => .cl _ _ (h i c v h1 h2)⟩
      | tup _ vs hl h => exact ⟨vs, rfl, hl, h⟩
    obtain ⟨vs, rfl, hl, hh⟩ := key
    refine .tup _ _ hl fun i c v h1 h2 => ?_
    obtain ⟨x, rfl⟩ := h c (List.mem_of_getElem? h1)
    exact v_any (hh i _ v h1 h2)

section
variable {P : Program} {r : Option Nat} {m : Nat} {Q : AX → St → Prop}

theorem opA_lend {o : Oper} {s : St} {K : D → List Blk → List AD → Prop} {X : D → List Blk → Prop} {c : Call} {fo : Operand} {f : FuncId} {as0 as' : List D}
    (ho : o.op = .call c) (hc : c.callee = .value fo) (hfo : evo s.env fo = some (.fn f [])) (has : allSome (c.args.toList.map (evo s.env)) = some as0) (hl : as'.length = as0.length)
    (hsn : ∀ F μ w hk, HR F μ s.H w → ∀ (i : Nat) (d d' : D) (v : Value), as0[i]? = some d → as'[i]? = some d' → VR F μ d v → CR (snapF w hk) d' v)
    (h : CallA P f as' [] (fun x _ => match x with | .ret d => Plain d ∧ K d s.H s.dfs | .pan _ => False)) : OpA P r o s K X := by
  refine ⟨fun F μ a w hr he next Q hn hp => ?_⟩
  obtain ⟨fn, hf, hb, hnm⟩ := h.fn
  have hfv := he.evo hfo
  have fnv : ∀ y, VR F μ (.fn f []) y → y = .func (.func f) #[] #[] := fun y hfv => by
    have e : ∀ vs : Array Value, ([] : List D).length = vs.size → vs = #[] := fun vs h => by
      apply Array.eq_empty_of_size_eq_zero; exact h.symm
    cases hfv with
    | cl _ _ hc => cases hc with | fn _ _ vs hl h => rw [e vs hl]
    | fn _ _ vs hl h => rw [e vs hl]
  have hfe := fnv _ hfv
  have hav := opsVR he has
  have hrun : (o.semAt r a.eval).run P w = .ok (.enter f (c.args.map a.eval ++ #[])) w := by
    rw [Oper.semAt_eq r a.eval o (fun c e => by rw [ho] at e; cases e)]
    unfold execOp
    rw [ho]
    simp only [resolve, hc, hfe, Deferred.ofValue, Sem.run_bind, Sem.run_pure, Result.andThen_ok, invoke, Array.empty_append]
    exact run_callFunc hf hb hnm _ _
  rw [hrun, Oper.uponIn_enter]
  refine ⟨(fun h => by cases h), ?_⟩
  have hlent : Lent s.H [] [] := ⟨List.nodup_nil, rfl, fun i k hi => by simp at hi, fun k x hx => by simp at hx⟩
  have hd := hr_down hlent hr
  have hk : w.cell? ⟨0, 0, none⟩ = some hndlV := (hr.frz 0 0 _ F.kn).1
  have hd1 : HR (snapF w hk) (μ.ren (rho [] s.H.length)) [] w := ⟨hd.dom, fun k sz es h => by simp [blkOf] at h, fun k y h => by simp [blkOf] at h, fun k x h => by simp [obOf] at h, hd.non, fun k k' b h => by simp [liveB] at h, fun b hb => hd.lt b hb, fun b o v hv => ⟨hv, fun ⟨k, hk, _⟩ => by simp [liveB] at hk⟩, fun k x h => by simp at h⟩
  have hcall := h.out (snapF w hk) _ (c.args.map a.eval ++ #[]) w hd1 (by
      have h2 := hav.len
      rw [hl]; simp at h2 ⊢; omega) (fun i d v hd hv => by
      have hi : i < as0.length := by have := (List.getElem?_eq_some_iff.1 hd).1; omega
      have h1 : as0[i]? = some as0[i] := List.getElem?_eq_getElem hi
      exact .cl _ _ (hsn F μ w hk hr i _ d v h1 hd (hav.get i _ v h1 (by simpa using hv))))
  refine CallsIn.mono hcall fun e w' he' => ?_
  cases e with
  | returned v =>
    obtain ⟨F', μ', H', d, hs, hv, hp', hq⟩ := he'
    have hno : ∀ b, ¬ Own (μ.ren (rho [] s.H.length)) [] b := fun b ⟨k, hk, _⟩ => by simp [liveB] at hk
    have hkeep : ∀ b, b < w.heap.size → w'.heap[b]? = w.heap[b]? := fun b hb => (hs.post.keep b hb (hno b)).1
    have hp1 : Post F (μ.ren (rho [] s.H.length)) [] w F (μ.ren (rho [] s.H.length)) [] w' := ⟨fun _ _ _ h => h, fun _ _ _ h => .inl h, hs.post.size, hs.post.tape, hs.post.os, hs.post.output, fun b hb ho => ⟨hkeep b hb, ho⟩⟩
    have hr1 : HR F (μ.ren (rho [] s.H.length)) [] w' := ⟨hd.dom, fun k sz es h => by simp [blkOf] at h, fun k y h => by simp [blkOf] at h, fun k x h => by simp [obOf] at h, hd.non, fun k k' b h => by simp [liveB] at h, fun b hb => absurd hb (hno b), fun b o v hv => by
      have h1 := (hs.hr.frz b o v (hs.post.mono b o v (hd.frz b o v hv).1)).1
      exact ⟨h1, hno b⟩, fun k x h => by simp at h⟩
    have hst := merge_stp hlent hr ⟨hp1, hr1, Nat.le_refl _, fun _ _ => rfl, Mks.refl _ _⟩
    have hH : mergeH s.H [] [] = s.H := by simp [mergeH, renH, updAll]
    rw [hH] at hst
    exact hn F _ _ w' s.dfs _ d v hst (hst.adr hr he.dfs) (plain_vr hp' hv) hq
  | panicked ch => obtain ⟨_, _, _, _, _, _, _, _, hf⟩ := he'; exact hf.elim
  | outgrown => exact he'.elim

/-- A call without a guard that is lent what it only reads. -/
theorem ops_lend {S : Stop} (hS : S = theStop P r m) {ops : Array Oper} {i : Nat} {l : List Nat} {o : Oper} {s : St} {c : Call} {fo : Operand} {f : FuncId} {as0 : List D} (as' : List D)
    (hoi : ops[i]? = some o) (hd : dstOk s.nt o.dst = true) (hg : o.guard = none) (ho : o.op = .call c) (hc : c.callee = .value fo) (hfo : evo s.env fo = some (.fn f [])) (has : allSome (c.args.toList.map (evo s.env)) = some as0) (hl : as'.length = as0.length)
    (hsn : ∀ F μ w hk, HR F μ s.H w → ∀ (i : Nat) (d d' : D) (v : Value), as0[i]? = some d → as'[i]? = some d' → VR F μ d v → CR (snapF w hk) d' v)
    (h : CallA P f as' [] (fun x _ => match x with | .ret d => Plain d ∧ OpsA P r m ops Q l (s.step o.dst d s.H s.dfs) | .pan _ => False)) : S.ops ops Q (i :: l) s := by
  subst hS
  refine opsA_cons hoi hd ?_
  simp only [guardA, hg]
  exact opA_lend ho hc hfo has hl hsn h
end

section
variable {F : Fz} {μ : Mu} {H : List Blk} {w : World} {hk : w.cell? ⟨0, 0, none⟩ = some hndlV}

theorem snap_mono (hr : HR F μ H w) : ∀ b o v, F b o = some v → (snapF w hk) b o = some v := fun b o v h => (hr.frz b o v h).1
theorem snap_fr (hr : HR F μ H w) {d : D} {v : Value} (hf : frD d = true) (hv : VR F μ d v) : CR (snapF w hk) d v := (fr_cr hv hf).mono (snap_mono hr)

/-- A row of cells, frozen. -/
theorem snap_row {b n cap sz : Nat} {es : List D} {c : Array Value} {t : TypeId} (hc : w.heap[b]? = some (.cells c t (0, 0))) (hn : n = es.length) (hcap : n ≤ cap) (hcell : ∀ (i : Nat) (e : D), es[i]? = some e → e.cells.length = sz ∧ ∀ (r : Nat) (d : D), e.cells[r]? = some d → ∃ v, c[i * sz + r]? = some v ∧ v.oneCell' = true ∧ CR (snapF w hk) d v) :
    CR (snapF w hk) (.sl sz es) (.slice (some ⟨b, 0, none⟩) n cap) := by
  subst hn
  have hex : ∀ i r, ∃ v, ∀ (e d : D), es[i]? = some e → e.cells[r]? = some d → c[i * sz + r]? = some v ∧ v.oneCell' = true ∧ CR (snapF w hk) d v := fun i r => by
    cases he : es[i]? with
    | none => exact ⟨undef, fun e d h => by cases h⟩
    | some e =>
      cases hd : e.cells[r]? with
      | none => exact ⟨undef, fun e' d h1 h2 => by cases h1; rw [hd] at h2; cases h2⟩
      | some d =>
        obtain ⟨v, hv⟩ := (hcell i e he).2 r d hd
        exact ⟨v, fun e' d' h1 h2 => by cases h1; rw [hd] at h2; cases h2; exact hv⟩
  refine .sl sz es b 0 cap (fun i r => Classical.choose (hex i r)) hcap (fun i e he => (hcell i e he).1) (fun i e r d he hd => ?_) (fun i e r d he hd => ?_)
  · obtain ⟨h1, h2, -⟩ := Classical.choose_spec (hex i r) e d he hd
    refine ⟨?_, h2⟩
    show w.cell? ⟨b, 0 + i * sz + r, none⟩ = _
    rw [Nat.zero_add]
    simp only [World.cell?, hc]
    exact h1
  · exact (Classical.choose_spec (hex i r) e d he hd).2.2

/-- A row of rows, frozen. -/
theorem snap_grid (hr : HR F μ H w) {k kg N : Nat} {xs : List Value} {rows : List (List D)} (hkk : H[k]? = some (.els 1 (gridE xs rows 0))) (hg : H[kg]? = some (.ob (.gr 1 (gridN xs rows 0)))) (hx : GridOk xs rows) (hl : xs.length = rows.length) (hN : N = xs.length) {v : Value} (hv : VR F μ (.o k 1 N) v) :
    CR (snapF w hk) (.sl 1 (rows.map (.sl 1))) v := by
  have hrow := fun (j : Nat) (x : Value) (hj : j < xs.length) (hxj : x = xs.getD j nilS) => show CR (snapF w hk) (.sl 1 (rows.getD j [])) x from by
    by_cases h0 : rows.getD j [] = []
    · rw [h0, hxj, hx.nil j hj h0]; exact .slE 1 none 0
    · obtain ⟨o1, loc, o2, -⟩ : OBR F μ kg w (.gr 1 (gridN xs rows 0)) := hr.obj kg _ (by unfold obOf; rw [hg]; rfl) trivial
      have hn := gridN_get (rows := rows) (c := 0) hj
      rw [if_neg (by rintro (h | h); omega; exact h0 (isEmpty_nil h)), ← hxj] at hn
      obtain ⟨c, t, cap, e1, e2, e3, e4, e5, e6, -⟩ := o2 j x _ hn
      rw [e1]
      exact snap_row e4 rfl e2 fun i e he => ⟨(e5 i e he).1, fun r d hd => by
        obtain ⟨v, v1, v2, v3⟩ := (e5 i e he).2 r d hd
        refine ⟨v, v1, v2, snap_fr hr ?_ v3⟩
        exact fr_cells (e6.out e (List.mem_of_getElem? he)) d (List.mem_of_getElem? hd)⟩
  have hb : blkOf H k = some (1, gridE xs rows 0) := by unfold blkOf; rw [hkk]; rfl
  have hlen : (rows.map (D.sl 1)).length = N := by rw [List.length_map, hN, hl]
  have hone : ∀ (es : List D) (c : Array Value), es = gridE xs rows 0 → CellsR F μ 1 es c → ∀ (i : Nat) (e : D), (rows.map (D.sl 1))[i]? = some e → e.cells.length = 1 ∧ ∀ (r : Nat) (d : D), e.cells[r]? = some d → ∃ v, c[i * 1 + r]? = some v ∧ v.oneCell' = true ∧ CR (snapF w hk) d v := by
    intro es c hes hc i e he
    have hi : i < xs.length := by have := (List.getElem?_eq_some_iff.1 he).1; rw [hlen, hN] at this; exact this
    have heq : e = .sl 1 (rows.getD i []) := by
      rw [List.getElem?_map, List.getElem?_eq_getElem (by omega)] at he
      rw [List.getD_eq_getElem?_getD, List.getElem?_eq_getElem (by omega)]
      exact (Option.some.inj he).symm
    subst heq
    refine ⟨rfl, fun r d hd => ?_⟩
    match r, hd with
    | 0, hd =>
      simp only [D.cells, List.getElem?_cons_zero, Option.some.injEq] at hd
      subst hd
      have hg1 := gridE_get (rows := rows) (c := 0) hi
      rw [if_neg (by omega), ← hes] at hg1
      obtain ⟨v, v1, v2, v3⟩ := (hc i _ hg1).2 0 (.v (xs.getD i nilS)) rfl
      refine ⟨v, v1, v2, ?_⟩
      rw [v3.v_inv]
      exact hrow i _ hi rfl
    | r + 1, hd => simp [D.cells] at hd
  have inv : (∃ a, v = .slice a 0 0 ∧ N = 0) ∨ ∃ b m cap, v = .slice (some ⟨b, 0, none⟩) N cap ∧ μ k = some (some (b, m)) ∧ N ≤ cap := by
    cases hv with
    | cl _ _ h => cases h
    | o k sz n b m cap h hc hm => exact .inr ⟨b, m, cap, rfl, h, hc⟩
    | oNil k sz a h => exact .inl ⟨a, rfl, rfl⟩
  rcases inv with ⟨a, rfl, h0⟩ | ⟨b, m, cap, rfl, hm, hcap⟩
  · have : rows.map (D.sl 1) = [] := List.length_eq_zero_iff.1 (by rw [hlen, h0])
    rw [this]; exact .slE 1 a 0
  · rcases hr.row k 1 _ hb (by rw [hm]; exact fun h => by cases h) with ⟨e1, -⟩ | ⟨b', m', c, t, e1, e2, e3, e4, e5⟩
    · rw [hm] at e1; cases e1
    · rw [hm] at e1; cases e1
      exact snap_row e2 hlen.symm hcap (hone _ c rfl e5)
end
end Go.Abs

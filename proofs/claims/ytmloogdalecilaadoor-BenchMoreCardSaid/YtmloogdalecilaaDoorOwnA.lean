/- Part OwnA of the proofs about the benches of the accordion maker: see the last text of the claim for what is proved. -/
import Derived.Test.YtmloogdalecilaaDoorBestA
import Derived.Test.YtmloogdalecilaaDoorMachG
set_option linter.unusedVariables false
set_option linter.unusedSimpArgs false
set_option linter.unnecessarySimpa false
set_option linter.constructorNameAsVariable false

/-! D73 -/
namespace Go.Proofs.YtmloogdalecilaaDoor
open Go Go.Abs Go.Proofs

def tkZ : Tk := ⟨0, 0, []⟩
def elT (ts : List Tk) (j : Nat) (c : D) : D := .agg [I (ts.getD j tkZ).ready, I (ts.getD j tkZ).due, c]
def rowsT (ts : List Tk) : List (List D) := ts.map fun t => t.works.map workD
def ownE (ts : List Tk) (xs : List Value) (fz : Nat → Bool) : List D := shopE 3 (elT ts) xs (rowsT ts) fz
def ownN (ts : List Tk) (xs : List Value) (fz : Nat → Bool) : List Ent := shopN xs (rowsT ts) fz

theorem tkD_get {ts : List Tk} {j : Nat} {t : Tk} (h : ts[j]? = some t) : ts.getD j tkZ = t := by rw [List.getD_eq_getElem?_getD, h]; rfl
theorem rowsT_D (ts : List Tk) (j : Nat) : (rowsT ts).getD j [] = (ts.getD j tkZ).works.map workD := by
  rw [rowsT, List.getD_eq_getElem?_getD, List.getD_eq_getElem?_getD, List.getElem?_map]
  cases ts[j]? <;> rfl
theorem own_fr {ts xs fz} : FrL (ownE ts xs fz) := shopE_fr fun j c hc => by show (true && (true && (frD c && true))) = true; rw [hc]; rfl
theorem ownE_len {ts xs fz} : (ownE ts xs fz).length = xs.length := shopE_len ..
theorem ownN_len {ts xs fz} : (ownN ts xs fz).length = xs.length := shopN_len ..
theorem ownE_get {ts : List Tk} {xs : List Value} {fz : Nat → Bool} {j : Nat} (h : j < xs.length) : (ownE ts xs fz)[j]? = some (elT ts j (if fz j then .sl 3 ((ts.getD j tkZ).works.map workD) else .v (xs.getD j nilS))) := by
  rw [ownE, shopE_get h, rowsT_D]
theorem own_all {ts : List Tk} {xs : List Value} {fz : Nat → Bool} (hl : xs.length = ts.length) (hf : ∀ j, j < ts.length → fz j = true) : ownE ts xs fz = ts.map taskD := by
  refine List.ext_getElem? fun j => ?_
  by_cases hj : j < ts.length
  · rw [ownE_get (by omega), hf j hj, if_pos rfl, List.getElem?_map, List.getElem?_eq_getElem hj, tkD_get (List.getElem?_eq_getElem hj)]
    rw [elT, tkD_get (List.getElem?_eq_getElem hj)]
    rfl
  · rw [List.getElem?_eq_none (by rw [ownE_len]; omega), List.getElem?_eq_none (by simp; omega)]
theorem ownN_none {ts : List Tk} {xs : List Value} {fz : Nat → Bool} (hf : ∀ j, fz j = true) (j : Nat) (e : Value) (row : List D) : (ownN ts xs fz)[j]? ≠ some (e, some row) := fun h => by
  by_cases hj : j < xs.length
  · rw [ownN, shopN_get hj, hf j, if_pos rfl] at h; cases h
  · rw [List.getElem?_eq_none (by rw [ownN_len]; omega)] at h; cases h

section
variable {m : Nat} {K : St → Prop} {s : St}

theorem own_take (k kg t L : Nat) {es : List D} {gn : List Ent} {ts : List Tk} {xs : List Value} {fz : Nat → Bool} (hes : es = ownE ts xs fz) (hgn : gn = ownN ts xs fz) (hL : L = s.H.length) (hk : nthB s.H k = some (.els 3 es)) (hg : nthB s.H kg = some (.ob (.gr 3 gn))) (hne : k ≠ kg)
    (ht : t < xs.length) (hf : fz t = false) {r : List D} {n : Nat} (hr : r = (ts.getD t tkZ).works.map workD) (hn : n = r.length)
    (h : ∀ es' gn', es' = (ownE ts xs fz).set t (elT ts t (.o L 3 n)) → gn' = (ownN ts xs fz).set t (xs.getD t nilS, none) → GS m K { s with H := ((s.H.set kg (.ob (.gr 3 gn'))).set k (.elo 3 es')) ++ [.els 3 r] }) : GS m K s := by
  subst es gn n
  refine shop_take k kg t L (r := r) (fi := 2) hL hk hg hne ht hf (by rw [rowsT_D]; exact hr) (fun c => rfl) (fun c c' => rfl) ?_
  have e : (((s.H.set k (Blk.elo 3 (shopE 3 (elT ts) xs (rowsT ts) fz))).set kg (.ob (.gr 3 ((shopN xs (rowsT ts) fz).set t (xs.getD t nilS, none))))).set k (.elo 3 ((shopE 3 (elT ts) xs (rowsT ts) fz).set t (elT ts t (.o L 3 r.length))))) = (s.H.set kg (.ob (.gr 3 ((ownN ts xs fz).set t (xs.getD t nilS, none))))).set k (.elo 3 ((ownE ts xs fz).set t (elT ts t (.o L 3 r.length)))) := by
    rw [List.set_comm _ _ hne, List.set_set]; rfl
  have h2 := h _ _ rfl rfl
  rw [← e] at h2
  exact h2

theorem own_upd {ts ts' : List Tk} {t : Nat} (hts : ∀ j, j ≠ t → ts'.getD j tkZ = ts.getD j tkZ) : (∀ j, j ≠ t → elT ts' j = elT ts j) ∧ ∀ j, j ≠ t → (rowsT ts').getD j [] = (rowsT ts).getD j [] :=
  ⟨fun j hj => by unfold elT; rw [hts j hj], fun j hj => by rw [rowsT_D, rowsT_D, hts j hj]⟩

/-- A row is put away; the order's other cells may be others now. -/
theorem own_put (k kg t L : Nat) {es row : List D} {gn : List Ent} {ts ts' : List Tk} {xs : List Value} {fz fz' : Nat → Bool} {x0 : Value} {n : Nat} (hes : es = (ownE ts xs fz).set t (elT ts' t (.o L 3 n))) (hgn : gn = (ownN ts xs fz).set t (x0, none)) (hk : nthB s.H k = some (.elo 3 es)) (hg : nthB s.H kg = some (.ob (.gr 3 gn))) (hL : nthB s.H L = some (.els 3 row)) (hnm : Nm s k)
    (ht : t < xs.length) (hts : ∀ j, j ≠ t → ts'.getD j tkZ = ts.getD j tkZ) (hff : ∀ j, j ≠ t → fz' j = fz j) (hft : fz' t = false) (hrow : row = (ts'.getD t tkZ).works.map workD) (hn : n = row.length) (hn0 : 0 < n)
    (h : ∀ xs' es' gn', xs'.length = xs.length → es' = ownE ts' xs' fz' → gn' = ownN ts' xs' fz' → GS m K { s with H := ((s.H.set L .dead).set kg (.ob (.gr 3 gn'))).set k (.els 3 es') }) : GS m K s := by
  subst hn
  have hsl : es[t]? = some (elT ts' t (.o L 3 row.length)) := by rw [hes, List.getElem?_set_self (by rw [ownE_len]; exact ht)]
  have hgl : gn.length = xs.length := by rw [hgn, List.length_set, ownN_len]
  obtain ⟨u1, u2⟩ := own_upd hts
  refine gs_grPut kg k L t t 2 (fun x => elT ts' t (.v x)) hg hk hL hnm (by omega) (fun e row' he => ?_) hn0 hsl rfl (fun _ => rfl) fun x _ => ?_
  · rw [hgn, List.getElem?_set_self (by rw [ownN_len]; exact ht)] at he; cases he
  have hxs := fun j => getD_setV (x := x) ht j
  have e1 : es.set t (elT ts' t (.v x)) = ownE ts' (xs.set t x) fz' := by
    rw [hes, List.set_set]
    exact shopE_upd (by simp) u1 (fun j hj => by rw [hxs j, if_neg hj]) u2 hff (by rw [hft, if_neg (by decide), hxs t, if_pos rfl])
  have e2 : grPut gn t (x, some row) = ownN ts' (xs.set t x) fz' := by
    rw [grPut_set _ (by omega), hgn, List.set_set]
    exact shopN_upd (by simp) (fun j hj => by rw [hxs j, if_neg hj]) u2 hff (by rw [hft, if_neg (by decide), hxs t, if_pos rfl, rowsT_D, ← hrow])
  rw [e1, e2]
  have hkl : k < s.H.length := by rw [nthB_eq] at hk; exact (List.getElem?_eq_some_iff.1 hk).1
  refine gs_els k (sz := 3) (es := ownE ts' (xs.set t x) fz') ?_ own_fr ?_
  · rw [nthB_eq]; exact List.getElem?_set_self (by simpa using hkl)
  have := h (xs.set t x) _ _ (by simp) rfl rfl
  simpa [List.set_set] using this

/-- A row is frozen. -/
theorem own_frz (k t L : Nat) {es row : List D} {gn : List Ent} {ts ts' : List Tk} {xs : List Value} {fz fz' : Nat → Bool} {n : Nat} (hes : es = (ownE ts xs fz).set t (elT ts' t (.o L 3 n))) (hgn : gn = (ownN ts xs fz).set t (xs.getD t nilS, none)) (hk : nthB s.H k = some (.elo 3 es)) (hL : nthB s.H L = some (.els 3 row))
    (ht : t < xs.length) (hts : ∀ j, j ≠ t → ts'.getD j tkZ = ts.getD j tkZ) (hff : ∀ j, j ≠ t → fz' j = fz j) (hft : fz' t = true) (hrow : row = (ts'.getD t tkZ).works.map workD) (hn : n = row.length)
    (h : ∀ es', es' = ownE ts' xs fz' → gn = ownN ts' xs fz' → GS m K { s with H := (s.H.set L .dead).set k (.els 3 es') }) : GS m K s := by
  subst hn
  obtain ⟨u1, u2⟩ := own_upd hts
  have e1 : es.set t (elT ts' t (.sl 3 row)) = ownE ts' xs fz' := by
    rw [hes, List.set_set]
    exact shopE_upd rfl u1 (fun j _ => rfl) u2 hff (by rw [hft, if_pos rfl, rowsT_D, ← hrow])
  have e2 : gn = ownN ts' xs fz' := by
    rw [hgn]
    exact shopN_upd rfl (fun j _ => rfl) u2 hff (by rw [hft, if_pos rfl])
  refine gs_fzE k L (es' := es.set t (elT ts' t (.sl 3 row))) hk hL (fzp_set (i := t) (d := elT ts' t (.o L 3 row.length)) (d' := elT ts' t (.sl 3 row)) ⟨rfl, fun r c' hc => by
        match r, hc with
        | 0, hc => exact .inl hc
        | 1, hc => exact .inl hc
        | 2, hc => simp [elT, D.cells] at hc; subst hc; exact .inr ⟨rfl, rfl⟩
        | r + 3, hc => simp [elT, D.cells] at hc⟩ rfl (fun hh => by rw [hes] at hh ⊢; rw [List.getElem?_set_self (by simpa using hh)])) ?_
  rw [e1]
  have hkl : k < s.H.length := by rw [nthB_eq] at hk; exact (List.getElem?_eq_some_iff.1 hk).1
  refine gs_els k (sz := 3) (es := ownE ts' xs fz') ?_ own_fr ?_
  · rw [nthB_eq]; exact List.getElem?_set_self (by simpa using hkl)
  have := h _ rfl e2
  simpa [List.set_set] using this

/-- All rows are frozen. -/
theorem own_melt (k kg : Nat) (ix : List Nat) {es : List D} {gn : List Ent} {ts : List Tk} {xs : List Value} (mk : List D → List Ent → St) (hne : k ≠ kg) (hes : es = ownE ts xs fun _ => false) (hgn : gn = ownN ts xs fun _ => false) (hl : xs.length = ts.length)
    (hk : ∀ es gn, nthB (mk es gn).H k = some (.els 3 es)) (hg : ∀ es gn, nthB (mk es gn).H kg = some (.ob (.gr 3 gn)))
    (hset : ∀ es gn es' gn', (((mk es gn).H.set kg (.ob (.gr 3 gn'))).set k (.els 3 es')) = (mk es' gn').H) (henv : ∀ es gn es' gn', { mk es gn with H := (mk es' gn').H } = mk es' gn')
    (hv : ∀ es gn, View m ix (mk es gn) { mk es gn with H := (mk es gn).H ++ [.dead] }) (h : ∀ gn', GS m K (mk (ts.map taskD) gn')) : GS m K (mk es gn) := by
  subst hes hgn
  obtain ⟨N, hN⟩ : ∃ N, N = ts.length := ⟨_, rfl⟩
  have hst : ∀ c, (fun j => decide (j < c)) c = false := fun c => decide_eq_false (Nat.lt_irrefl c)
  have hend := h (ownN ts xs fun j => decide (j < N))
  rw [← own_all (fz := fun j => decide (j < N)) hl (fun j hj => decide_eq_true (by omega))] at hend
  have h0 : (fun _ => false) = fun j => decide (j < 0) := funext fun j => (decide_eq_false (by omega)).symm
  rw [h0]
  refine gs_iter (fun c => mk (ownE ts xs fun j => decide (j < c)) (ownN ts xs fun j => decide (j < c))) N (fun c hc K h => ?_) hend
  obtain ⟨es, hes⟩ : ∃ es, es = ownE ts xs fun j => decide (j < c) := ⟨_, rfl⟩
  obtain ⟨gn, hgn⟩ : ∃ gn, gn = ownN ts xs fun j => decide (j < c) := ⟨_, rfl⟩
  rw [← hes, ← hgn]
  have hkl : k < (mk es gn).H.length := by have := hk es gn; rw [nthB_eq] at this; exact (List.getElem?_eq_some_iff.1 this).1
  have hgl : kg < (mk es gn).H.length := by have := hg es gn; rw [nthB_eq] at this; exact (List.getElem?_eq_some_iff.1 this).1
  refine own_take k kg c (mk es gn).H.length hes hgn rfl (hk _ _) (hg _ _) hne (by omega) (hst c) rfl rfl fun es1 gn1 h1 h2 => ?_
  refine own_frz (fz' := fun j => decide (j < c + 1)) k c (mk es gn).H.length h1 h2 ?_ ?_ (by omega) (fun _ _ => rfl) (fun j hj => decide_eq_decide.2 (by omega)) (decide_eq_true (Nat.lt_succ_self _)) rfl rfl fun es2 h3 h4 => ?_
  · rw [nthB_eq, List.getElem?_append_left (by simpa using hkl)]
    exact List.getElem?_set_self (by simpa using hkl)
  · rw [nthB_eq, List.getElem?_append_right (by simp)]; simp
  have e : (((((mk es gn).H.set kg (Blk.ob (.gr 3 gn1))).set k (Blk.elo 3 es1) ++ [Blk.els 3 (List.map workD (ts.getD c tkZ).works)]).set (mk es gn).H.length Blk.dead).set k (Blk.els 3 es2)) = (mk es2 gn1).H ++ [.dead] := by
    rw [List.set_append_right _ _ (by simp)]
    simp only [List.length_set, Nat.sub_self, List.set_cons_zero]
    rw [List.set_append_left _ _ (by simpa using hkl), List.set_set, hset]
  show GS m K { mk es gn with H := _ }
  rw [e]
  have e2 : ({ mk es gn with H := (mk es2 gn1).H ++ [.dead] } : St) = { mk es2 gn1 with H := (mk es2 gn1).H ++ [.dead] } := by
    rw [← henv es gn es2 gn1]
  rw [e2, h3, h4]
  exact gs_view ix (hv _ _) h
end
end Go.Proofs.YtmloogdalecilaaDoor

/-! D74 -/
namespace Go.Proofs.YtmloogdalecilaaDoor
open Go Go.Abs Go.Proofs

set_option maxRecDepth 20000 in
set_option maxHeartbeats 4000000 in
/-- CopyShop. -/
theorem kCopyShopG (s : Sh) (hs : NotBig s) (hne : ∀ t ∈ s.tasks, 0 < t.works.length) (TL : List D) (hT : TL = s.tasks.map taskD) (N : Nat) (hN : N = s.tasks.length) (Q)
    (hq : ∀ xs es gn, xs.length = N → es = ownE s.tasks xs (fun _ => false) → gn = ownN s.tasks xs (fun _ => false) → Q (RA.ret (.agg [I s.benches, .o 0 3 N])) [.els 3 es, .ob (.gr 3 gn)]) : CallA Tryd.prog 25 [.agg [I s.benches, .sl 3 TL]] [] Q := by
  obtain ⟨A, hA⟩ : ∃ A, A = ar := ⟨_, rfl⟩
  have hTl : TL.length = N := by rw [hT, hN]; simp
  have hNb : N ≤ 20 := by rw [hN]; exact hs.1
  have hN2 : A.addN 0 (A.len TL) = N := by rw [xaddN hA, xlen hA, hTl]; simp
  have hr1 : A.room (A.addN 0 (A.len TL)) 40 := by rw [hN2]; exact yroomN hA (by omega) (by decide)
  have hTe : A.app [] TL = TL := by rw [xapp hA]; rfl
  let xs0 : List Value := List.replicate N nilS
  have hx0 : xs0.length = s.tasks.length := by simp [xs0, hN]
  let fc : Nat → Nat → Bool := fun k j => decide (k ≤ j)
  have hall : TL = ownE s.tasks xs0 (fc 0) := by rw [hT, own_all hx0 (fun j _ => decide_eq_true (Nat.zero_le _))]
  have hnone := ownN_none (ts := s.tasks) (xs := xs0) (fz := fc 0) (fun j => decide_eq_true (Nat.zero_le _))
  obtain ⟨gn0, hgn0⟩ : ∃ gn0, gn0 = ownN s.tasks xs0 (fc 0) := ⟨_, rfl⟩
  rw [← hgn0] at hnone
  refine callA_start tokT hA Tryd.func25 rfl rfl rfl rfl rfl fun S hS => ?_
  cbv
  refine ⟨yeqLen hA rfl, hr1, ?_⟩
  refine at_code hS ?_
  refine wpa_loopG (α := Int × Nat × List Value × List D × List Ent) (fun q => { env := [(1, .b 0 0), (2, .b 1 0), (3, I q.1)], H := [.box (.agg [I s.benches, .o 2 3 (A.addN 0 (A.len TL))]), .box (.agg [I 0, .v (.slice none 0 0)]), .els 3 q.2.2.2.1, .ob (.gr 3 q.2.2.2.2)], nt := 30, dfs := [] })
    (fun q => N - q.2.1) (fun q => q.2.1 ≤ N ∧ IsI q.1 q.2.1 ∧ q.2.2.1.length = N ∧ q.2.2.2.1 = ownE s.tasks q.2.2.1 (fc q.2.1) ∧ q.2.2.2.2 = ownN s.tasks q.2.2.1 (fc q.2.1)) (0, 0, xs0, TL, gn0) ⟨Nat.zero_le _, ⟨rfl⟩, by simp [xs0], hall, hgn0⟩ ?_ ?_
  · refine gs_grNewN 3 gn0 hnone ?_
    exact gs_to [0, 1, 3, 4] ⟨by decide, pre0, ⟨rfl, rfl, nthB_els rfl hTe, rfl, trivial⟩, ⟨rfl, rfl, rfl, trivial⟩, rfl, rfl⟩
  rintro ⟨i, k, xs, es0, gn⟩ ⟨u1, u2, u3, u4, u5⟩
  dsimp only at u1 u2 u3 u4 u5
  have hes0l : es0.length = N := by rw [u4, ownE_len, u3]
  have hlt1 : A.cmp .lss i (A.oi (A.addN 0 (A.len TL))) = true → k < N := fun h => by
    have := xlt hA h; rw [hN2, u2.eq] at this; subst hA; simp [ar] at this; omega
  have hlt2 : A.cmp .lss i (A.oi (A.addN 0 (A.len TL))) = false → k = N := fun h => by
    have := xnlt hA h; rw [hN2, u2.eq] at this; subst hA; simp [ar] at this; omega
  refine wp_goF tokT hA hS [] ?_
  cbv
  refine bm (fun c => ?_) (fun c => ?_)
  · have hk : k < N := hlt1 c
    obtain ⟨t, ht⟩ : ∃ t, t = s.tasks[k] := ⟨_, rfl⟩
    have htk : s.tasks[k]? = some t := by rw [ht]; exact List.getElem?_eq_getElem (by omega)
    obtain ⟨WL, hWL⟩ : ∃ WL, WL = t.works.map workD := ⟨_, rfl⟩
    have hWl : WL.length = t.works.length := by rw [hWL]; simp
    have hWb := hs.2 t (List.mem_of_getElem? htk)
    have hW0 := hne t (List.mem_of_getElem? htk)
    have htD := tkD_get htk
    have hTk : es0[k]? = some (.agg [I t.ready, I t.due, .sl 3 WL]) := by
      rw [u4, ownE_get (by omega), show fc k k = true from decide_eq_true (Nat.le_refl _), if_pos rfl, htD, hWL, elT, htD]
    have hM2 : A.addN 0 (A.len WL) = t.works.length := by rw [xaddN hA, xlen hA, hWl]; simp
    have hr2 : A.room (A.addN 0 (A.len WL)) 24 := by rw [hM2]; exact yroomN hA (by omega) (by decide)
    have hi1 : A.inb i (A.addN 0 (A.len TL)) := yinb hA u2 (by rw [hN2]; exact hk)
    have hg1 := yget hA u2 hTk
    have hf := yfit1 hA u2 (by omega)
    have hu2 := ysucc hA u2
    have hms : N - (k + 1) < N - k := by omega
    obtain ⟨row, hrow⟩ : ∃ row, row = A.app [] WL := ⟨_, rfl⟩
    have hrow2 : row = WL := by rw [hrow, xapp hA]; rfl
    have hrl : row.length = A.addN 0 (A.len WL) := by rw [hM2, hrow2, hWl]
    have hrn : 0 < A.addN 0 (A.len WL) := by rw [hM2]; exact hW0
    obtain ⟨es, hes⟩ : ∃ es, es = A.set es0 (A.tn i) (.agg [I t.ready, I t.due, .o 5 3 (A.addN 0 (A.len WL))]) := ⟨_, rfl⟩
    have hes2 : es = (ownE s.tasks xs (fc k)).set k (elT s.tasks k (.o 5 3 (A.addN 0 (A.len WL)))) := by rw [hes, ← u4]; exact yset hA u2 (by rw [elT, htD])
    have hgn2 : gn = (ownN s.tasks xs (fc k)).set k (xs.getD k nilS, none) := by
      rw [u5]
      exact (shopN_upd (fz' := fc k) rfl (fun _ _ => rfl) (fun _ _ => rfl) (fun _ _ => rfl) (by rw [show fc k k = true from decide_eq_true (Nat.le_refl _), if_pos rfl])).symm
    have hrowT : row = (s.tasks.getD k tkZ).works.map workD := by rw [htD, hrow2, hWL]
    have hfn : fc (k + 1) k = false := decide_eq_false (by omega)
    have hfj : ∀ j, j ≠ k → fc (k + 1) j = fc k j := fun j hj => decide_eq_decide.2 (by omega)
    have hkx : k < xs.length := by omega
    cbv
    refine draw_go tokT hA hS [0, 1, 2, 3, 4, 5, 6, 7, 8, 9, 10, 11, 12, 13] rfl rfl fun Dk hD => ?_
    cbv
    refine ⟨hi1, ⟨_, hg1, ?_⟩⟩
    cbv
    refine ⟨yeqLen hA rfl, hr2, hi1, ⟨_, hg1, ?_⟩⟩
    cbv
    refine ⟨hf, ?_⟩
    refine own_put 2 3 k 5 (es := es) (row := row) hes2 hgn2 (by rw [hes]; rfl) rfl (by rw [hrow]; rfl) (.inr ⟨1, 0, 0, .agg [I s.benches, .o 2 3 (A.addN 0 (A.len TL))], 1, 3, A.addN 0 (A.len TL), rfl, rfl, rfl⟩) hkx (fun _ _ => rfl) hfj hfn hrowT hrl.symm hrn fun xs' es' gn' g1 g2 g3 => ?_
    refine gs_loop (A.add i 1, k + 1, xs', es', gn') [0, 1, 2, 3] ⟨hk, hu2, g1.trans u3, g2, g3⟩ hms ?_
    exact ⟨by decide, pre0, ⟨rfl, rfl, rfl, rfl, trivial⟩, ⟨rfl, rfl, rfl, trivial⟩, rfl, rfl⟩
  · have hkN := hlt2 c
    have hfe : ownE s.tasks xs (fc k) = ownE s.tasks xs (fun _ => false) := List.ext_getElem? fun j => by
      by_cases hj : j < xs.length
      · rw [ownE_get hj, ownE_get hj, show fc k j = false from decide_eq_false (by omega)]
      · rw [List.getElem?_eq_none (by rw [ownE_len]; omega), List.getElem?_eq_none (by rw [ownE_len]; omega)]
    have hfe2 : ownN s.tasks xs (fc k) = ownN s.tasks xs (fun _ => false) := List.ext_getElem? fun j => by
      by_cases hj : j < xs.length
      · rw [ownN, shopN_get hj, ownN, shopN_get hj, show fc k j = false from decide_eq_false (by omega)]
      · rw [List.getElem?_eq_none (by rw [ownN_len]; omega), List.getElem?_eq_none (by rw [ownN_len]; omega)]
    have hq' := hq xs es0 gn u3 (u4.trans hfe) (u5.trans hfe2)
    rw [← hN2] at hq'
    cbv
    refine gs_done ?_
    cbv
    exact gh_view [2, 3] (by decide) pre0 (H' := [.els 3 es0, .ob (.gr 3 gn)]) (d' := .agg [I s.benches, .o 0 3 (A.addN 0 (A.len TL))]) ⟨rfl, rfl, trivial⟩ rfl (gh_done hq')
end Go.Proofs.YtmloogdalecilaaDoor

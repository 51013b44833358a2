/- Part RunP of the proofs about the benches of the accordion maker: see the last text of the claim for what is proved. -/
import Derived.Test.YtegjabljeepbdaaGreatDoorRunH
import Derived.Test.YtegjabljeepbdaaGreatDoorRunL
set_option linter.unusedVariables false
set_option linter.unusedSimpArgs false
set_option linter.unnecessarySimpa false
set_option linter.constructorNameAsVariable false

namespace Go.Abs
open Go
def Z15d (isz : Nat) (el : Nat -> D -> D) (xs : List Value) (rows : List (List D)) (fz : Nat -> Bool) : List D := (List.range xs.length).map fun j => el j (if fz j then .sl isz (rows.getD j []) else .v (xs.getD j Z5t))
def Z15k (xs : List Value) (rows : List (List D)) (fz : Nat -> Bool) : List Ent := (List.range xs.length).map fun j => (xs.getD j Z5t, if fz j then none else some (rows.getD j []))
theorem Z15o (isz el xs rows fz) : (Z15d isz el xs rows fz).length = xs.length := by simp [Z15d]
theorem Z15p (xs rows fz) : (Z15k xs rows fz).length = xs.length := by simp [Z15k]
theorem Z15q {isz el} {xs : List Value} {rows fz j} (h : j < xs.length) : (Z15d isz el xs rows fz)[j]? = some (el j (if fz j then .sl isz (rows.getD j []) else .v (xs.getD j Z5t))) := by simp [Z15d, h]
theorem Z15r {xs : List Value} {rows fz j} (h : j < xs.length) : (Z15k xs rows fz)[j]? = some (xs.getD j Z5t, if fz j then none else some (rows.getD j [])) := by simp [Z15k, h]
theorem Z173 {isz : Nat} {el el' : Nat -> D -> D} {xs xs' : List Value} {rows rows' : List (List D)} {fz fz' : Nat -> Bool} {t : Nat} {d : D} (hl : xs'.length = xs.length) (hel : ∀ j, j ≠ t -> el' j = el j) (hx : ∀ j, j ≠ t -> xs'.getD j Z5t = xs.getD j Z5t)
  (hr : ∀ j, j ≠ t -> rows'.getD j [] = rows.getD j []) (hf : ∀ j, j ≠ t -> fz' j = fz j) (hd : d = el' t (if fz' t then .sl isz (rows'.getD t []) else .v (xs'.getD t Z5t))) : (Z15d isz el xs rows fz).set t d = Z15d isz el' xs' rows' fz' := by
 refine List.ext_getElem? fun j => ?_
 by_cases hj : j < xs.length
 ·rw [Z15q (by omega), List.getElem?_set]
  by_cases e : t = j
  ·subst e; rw [if_pos rfl, if_pos (by rw [Z15o]; exact hj), hd]
  ·have e' : j ≠ t := fun h => e h.symm;rw [if_neg e, Z15q hj, hel j e', hx j e', hr j e', hf j e']
 ·rw [List.getElem?_eq_none (by rw [List.length_set, Z15o]; omega), List.getElem?_eq_none (by rw [Z15o]; omega)]
theorem Z174 {xs xs' : List Value} {rows rows' : List (List D)} {fz fz' : Nat -> Bool} {t : Nat} {d : Ent} (hl : xs'.length = xs.length) (hx : ∀ j, j ≠ t -> xs'.getD j Z5t = xs.getD j Z5t)
  (hr : ∀ j, j ≠ t -> rows'.getD j [] = rows.getD j []) (hf : ∀ j, j ≠ t -> fz' j = fz j) (hd : d = (xs'.getD t Z5t, if fz' t then none else some (rows'.getD t []))) : (Z15k xs rows fz).set t d = Z15k xs' rows' fz' := by
 refine List.ext_getElem? fun j => ?_
 by_cases hj : j < xs.length
 ·rw [Z15r (by omega), List.getElem?_set]
  by_cases e : t = j
  ·subst e; rw [if_pos rfl, if_pos (by rw [Z15p]; exact hj), hd]
  ·have e' : j ≠ t := fun h => e h.symm;rw [if_neg e, Z15r hj, hx j e', hr j e', hf j e']
 ·rw [List.getElem?_eq_none (by rw [List.length_set, Z15p]; omega), List.getElem?_eq_none (by rw [Z15p]; omega)]
theorem Z18i {isz : Nat} {el : Nat -> D -> D} {xs : List Value} {rows : List (List D)} {fz : Nat -> Bool} (hel : ∀ j c, frD c = true -> frD (el j c) = true) : FrL (Z15d isz el xs rows fz) := ⟨fun d hd => by
 obtain ⟨j, -, rfl⟩ := List.mem_map.1 hd
 refine hel j _ ?_
 split <;> rfl⟩
theorem Z17r {xs : List Value} {t : Nat} {x : Value} (ht : t < xs.length) (j : Nat) : (xs.set t x).getD j Z5t = if j = t then x else xs.getD j Z5t := by
 rw [List.getD_eq_getElem?_getD, List.getElem?_set]
 by_cases e : t = j
 ·subst e; rw [if_pos rfl, if_pos ht, if_pos rfl]; rfl
 ·rw [if_neg e, if_neg (fun h => e h.symm), List.getD_eq_getElem?_getD]
section
variable {m : Nat} {K : St -> Prop} {s : St}
theorem Z17s (k kg t L : Nat) {esz isz fi : Nat} {el : Nat -> D -> D} {xs : List Value} {rows : List (List D)} {fz : Nat -> Bool} (hL : L = s.H.length) (hk : Z1m s.H k = some (.els esz (Z15d isz el xs rows fz))) (hg : Z1m s.H kg = some (.ob (.gr isz (Z15k xs rows fz)))) (hne : k ≠ kg)
  (ht : t < xs.length) (hf : fz t = false) {r : List D} (hr : r = rows.getD t []) (hel1 : ∀ c, (el t c).cells[fi]? = some c) (hel2 : ∀ c c', (el t c').cells = (el t c).cells.set fi c')
  (h : GS m K { s with H := (((s.H.set k (.elo esz (Z15d isz el xs rows fz))).set kg (.ob (.gr isz ((Z15k xs rows fz).set t (xs.getD t Z5t, none))))).set k (.elo esz ((Z15d isz el xs rows fz).set t (el t (.o L isz r.length))))) ++ [.els isz r] }) : GS m K s := by
 have hkl : k < s.H.length := by rw [Z1u] at hk; exact (List.getElem?_eq_some_iff.1 hk).1
 refine Zs8 k hk ?_;have hg' := Z15q (isz := isz) (el := el) (rows := rows) (fz := fz) ht;rw [hf, if_neg (by decide)] at hg';have hn := Z15r (rows := rows) (fz := fz) ht;rw [hf, if_neg (by decide), <- hr] at hn;refine Zpu kg k t t fi (el t (.o L isz r.length)) (ents := Z15k xs rows fz) (es := Z15d isz el xs rows fz) (d := el t (.v (xs.getD t Z5t))) ?_ ?_ hn hg' (hel1 _) ?_ h
 ·show Z1m (s.H.set k _) kg = _;rw [Z1u, List.getElem?_set_ne hne, <- Z1u]; exact hg
 ·show Z1m (s.H.set k _) k = _;rw [Z1u, List.getElem?_set_self hkl]
 ·show _ = (D.cells _).set fi (.o (s.H.set k _).length isz r.length);rw [List.length_set, <- hL]; exact hel2 _ _
end
end Go.Abs

namespace Go.Proofs.YtegjabljeepbdaaGreatDoor.Bn
open Go Go.Abs Go.Proofs
def tkZ : Tk := ⟨0, 0, []⟩
def elT (ts : List Tk) (j : Nat) (c : D) : D := .agg [I (ts.getD j tkZ).ready, I (ts.getD j tkZ).due, c]
def Z15u (ts : List Tk) : List (List D) := ts.map fun t => t.works.map Z14x
def ownE (ts : List Tk) (xs : List Value) (fz : Nat -> Bool) : List D := Z15d 3 (elT ts) xs (Z15u ts) fz
def ownN (ts : List Tk) (xs : List Value) (fz : Nat -> Bool) : List Ent := Z15k xs (Z15u ts) fz
theorem tkD_get {ts : List Tk} {j : Nat} {t : Tk} (h : ts[j]? = some t) : ts.getD j tkZ = t := by rw [List.getD_eq_getElem?_getD, h]; rfl
theorem Z15h (ts : List Tk) (j : Nat) : (Z15u ts).getD j [] = (ts.getD j tkZ).works.map Z14x := by
 rw [Z15u, List.getD_eq_getElem?_getD, List.getD_eq_getElem?_getD, List.getElem?_map]
 cases ts[j]? <;> rfl
theorem Z18j {ts xs fz} : FrL (ownE ts xs fz) := Z18i fun j c hc => by show (true && (true && (frD c && true))) = true; rw [hc]; rfl
theorem ownE_len {ts xs fz} : (ownE ts xs fz).length = xs.length := Z15o ..
theorem Z15a {ts xs fz} : (ownN ts xs fz).length = xs.length := Z15p ..
theorem Z15v {ts : List Tk} {xs : List Value} {fz : Nat -> Bool} {j : Nat} (h : j < xs.length) : (ownE ts xs fz)[j]? = some (elT ts j (if fz j then .sl 3 ((ts.getD j tkZ).works.map Z14x) else .v (xs.getD j Z5t))) := by
 rw [ownE, Z15q h, Z15h]
theorem Z192 {ts : List Tk} {xs : List Value} {fz : Nat -> Bool} (hl : xs.length = ts.length) (hf : ∀ j, j < ts.length -> fz j = true) : ownE ts xs fz = ts.map Z14z := by
 refine List.ext_getElem? fun j => ?_
 by_cases hj : j < ts.length
 ·rw [Z15v (by omega), hf j hj, if_pos rfl, List.getElem?_map, List.getElem?_eq_getElem hj, tkD_get (List.getElem?_eq_getElem hj)];rw [elT, tkD_get (List.getElem?_eq_getElem hj)];rfl
 ·rw [List.getElem?_eq_none (by rw [ownE_len]; omega), List.getElem?_eq_none (by simp; omega)]
section
variable {m : Nat} {K : St -> Prop} {s : St}
theorem own_take (k kg t L : Nat) {es : List D} {gn : List Ent} {ts : List Tk} {xs : List Value} {fz : Nat -> Bool} (hes : es = ownE ts xs fz) (hgn : gn = ownN ts xs fz) (hL : L = s.H.length) (hk : Z1m s.H k = some (.els 3 es)) (hg : Z1m s.H kg = some (.ob (.gr 3 gn))) (hne : k ≠ kg)
  (ht : t < xs.length) (hf : fz t = false) {r : List D} {n : Nat} (hr : r = (ts.getD t tkZ).works.map Z14x) (hn : n = r.length)
  (h : ∀ es' gn', es' = (ownE ts xs fz).set t (elT ts t (.o L 3 n)) -> gn' = (ownN ts xs fz).set t (xs.getD t Z5t, none) -> GS m K { s with H := ((s.H.set kg (.ob (.gr 3 gn'))).set k (.elo 3 es')) ++ [.els 3 r] }) : GS m K s := by
 subst es gn n;refine Z17s k kg t L (r := r) (fi := 2) hL hk hg hne ht hf (by rw [Z15h]; exact hr) (fun c => rfl) (fun c c' => rfl) ?_;have e : (((s.H.set k (Blk.elo 3 (Z15d 3 (elT ts) xs (Z15u ts) fz))).set kg (.ob (.gr 3 ((Z15k xs (Z15u ts) fz).set t (xs.getD t Z5t, none))))).set k (.elo 3 ((Z15d 3 (elT ts) xs (Z15u ts) fz).set t (elT ts t (.o L 3 r.length))))) = (s.H.set kg (.ob (.gr 3 ((ownN ts xs fz).set t (xs.getD t Z5t, none))))).set k (.elo 3 ((ownE ts xs fz).set t (elT ts t (.o L 3 r.length)))) := by
  rw [List.set_comm _ _ hne, List.set_set]; rfl
 have h2 := h _ _ rfl rfl;rw [<- e] at h2;exact h2
theorem Z17n {ts ts' : List Tk} {t : Nat} (hts : ∀ j, j ≠ t -> ts'.getD j tkZ = ts.getD j tkZ) : (∀ j, j ≠ t -> elT ts' j = elT ts j) /\ ∀ j, j ≠ t -> (Z15u ts').getD j [] = (Z15u ts).getD j [] :=
 ⟨fun j hj => by unfold elT; rw [hts j hj], fun j hj => by rw [Z15h, Z15h, hts j hj]⟩
theorem own_put (k kg t L : Nat) {es row : List D} {gn : List Ent} {ts ts' : List Tk} {xs : List Value} {fz fz' : Nat -> Bool} {x0 : Value} {n : Nat} (hes : es = (ownE ts xs fz).set t (elT ts' t (.o L 3 n))) (hgn : gn = (ownN ts xs fz).set t (x0, none)) (hk : Z1m s.H k = some (.elo 3 es)) (hg : Z1m s.H kg = some (.ob (.gr 3 gn))) (hL : Z1m s.H L = some (.els 3 row)) (hnm : Nm s k)
  (ht : t < xs.length) (hts : ∀ j, j ≠ t -> ts'.getD j tkZ = ts.getD j tkZ) (hff : ∀ j, j ≠ t -> fz' j = fz j) (hft : fz' t = false) (hrow : row = (ts'.getD t tkZ).works.map Z14x) (hn : n = row.length) (hn0 : 0 < n)
  (h : ∀ xs' es' gn', xs'.length = xs.length -> es' = ownE ts' xs' fz' -> gn' = ownN ts' xs' fz' -> GS m K { s with H := ((s.H.set L .dead).set kg (.ob (.gr 3 gn'))).set k (.els 3 es') }) : GS m K s := by
 subst hn;have hsl : es[t]? = some (elT ts' t (.o L 3 row.length)) := by rw [hes, List.getElem?_set_self (by rw [ownE_len]; exact ht)]
 have hgl : gn.length = xs.length := by rw [hgn, List.length_set, Z15a]
 obtain ⟨u1, u2⟩ := Z17n hts;refine Zsa kg k L t t 2 (fun x => elT ts' t (.v x)) hg hk hL hnm (by omega) (fun e row' he => ?_) hn0 hsl rfl (fun _ => rfl) fun x _ => ?_
 ·rw [hgn, List.getElem?_set_self (by rw [Z15a]; exact ht)] at he; cases he
 have hxs := fun j => Z17r (x := x) ht j;have e1 : es.set t (elT ts' t (.v x)) = ownE ts' (xs.set t x) fz' := by
  rw [hes, List.set_set];exact Z173 (by simp) u1 (fun j hj => by rw [hxs j, if_neg hj]) u2 hff (by rw [hft, if_neg (by decide), hxs t, if_pos rfl])
 have e2 : Zfl gn t (x, some row) = ownN ts' (xs.set t x) fz' := by
  rw [Zpt _ (by omega), hgn, List.set_set];exact Z174 (by simp) (fun j hj => by rw [hxs j, if_neg hj]) u2 hff (by rw [hft, if_neg (by decide), hxs t, if_pos rfl, Z15h, <- hrow])
 rw [e1, e2];have hkl : k < s.H.length := by rw [Z1u] at hk; exact (List.getElem?_eq_some_iff.1 hk).1
 refine Zmp k (sz := 3) (es := ownE ts' (xs.set t x) fz') ?_ Z18j ?_
 ·rw [Z1u]; exact List.getElem?_set_self (by simpa using hkl)
 have := h (xs.set t x) _ _ (by simp) rfl rfl;simpa [List.set_set] using this
theorem Z193 (k t L : Nat) {es row : List D} {gn : List Ent} {ts ts' : List Tk} {xs : List Value} {fz fz' : Nat -> Bool} {n : Nat} (hes : es = (ownE ts xs fz).set t (elT ts' t (.o L 3 n))) (hgn : gn = (ownN ts xs fz).set t (xs.getD t Z5t, none)) (hk : Z1m s.H k = some (.elo 3 es)) (hL : Z1m s.H L = some (.els 3 row))
  (ht : t < xs.length) (hts : ∀ j, j ≠ t -> ts'.getD j tkZ = ts.getD j tkZ) (hff : ∀ j, j ≠ t -> fz' j = fz j) (hft : fz' t = true) (hrow : row = (ts'.getD t tkZ).works.map Z14x) (hn : n = row.length)
  (h : ∀ es', es' = ownE ts' xs fz' -> gn = ownN ts' xs fz' -> GS m K { s with H := (s.H.set L .dead).set k (.els 3 es') }) : GS m K s := by
 subst hn;obtain ⟨u1, u2⟩ := Z17n hts;have e1 : es.set t (elT ts' t (.sl 3 row)) = ownE ts' xs fz' := by
  rw [hes, List.set_set];exact Z173 rfl u1 (fun j _ => rfl) u2 hff (by rw [hft, if_pos rfl, Z15h, <- hrow])
 have e2 : gn = ownN ts' xs fz' := by
  rw [hgn];exact Z174 rfl (fun j _ => rfl) u2 hff (by rw [hft, if_pos rfl])
 refine Zs9 k L (es' := es.set t (elT ts' t (.sl 3 row))) hk hL (Zuu (i := t) (d := elT ts' t (.o L 3 row.length)) (d' := elT ts' t (.sl 3 row)) ⟨rfl, fun r c' hc => by
    match r, hc with
    | 0, hc => exact .inl hc
    | 1, hc => exact .inl hc
    | 2, hc => simp [elT, D.cells] at hc; subst hc; exact .inr ⟨rfl, rfl⟩
    | r + 3, hc => simp [elT, D.cells] at hc⟩ rfl (fun hh => by rw [hes] at hh ⊢; rw [List.getElem?_set_self (by simpa using hh)])) ?_
 rw [e1];have hkl : k < s.H.length := by rw [Z1u] at hk; exact (List.getElem?_eq_some_iff.1 hk).1
 refine Zmp k (sz := 3) (es := ownE ts' xs fz') ?_ Z18j ?_
 ·rw [Z1u]; exact List.getElem?_set_self (by simpa using hkl)
 have := h _ rfl e2;simpa [List.set_set] using this
theorem own_melt (k kg : Nat) (ix : List Nat) {es : List D} {gn : List Ent} {ts : List Tk} {xs : List Value} (mk : List D -> List Ent -> St) (hne : k ≠ kg) (hes : es = ownE ts xs fun _ => false) (hgn : gn = ownN ts xs fun _ => false) (hl : xs.length = ts.length)
  (hk : ∀ es gn, Z1m (mk es gn).H k = some (.els 3 es)) (hg : ∀ es gn, Z1m (mk es gn).H kg = some (.ob (.gr 3 gn)))
  (hset : ∀ es gn es' gn', (((mk es gn).H.set kg (.ob (.gr 3 gn'))).set k (.els 3 es')) = (mk es' gn').H) (henv : ∀ es gn es' gn', { mk es gn with H := (mk es' gn').H } = mk es' gn')
  (hv : ∀ es gn, View m ix (mk es gn) { mk es gn with H := (mk es gn).H ++ [.dead] }) (h : ∀ gn', GS m K (mk (ts.map Z14z) gn')) : GS m K (mk es gn) := by
 subst hes hgn;obtain ⟨N, hN⟩ : ∃ N, N = ts.length := ⟨_, rfl⟩;have hst : ∀ c, (fun j => decide (j < c)) c = false := fun c => decide_eq_false (Nat.lt_irrefl c);have hend := h (ownN ts xs fun j => decide (j < N));rw [<- Z192 (fz := fun j => decide (j < N)) hl (fun j hj => decide_eq_true (by omega))] at hend;have h0 : (fun _ => false) = fun j => decide (j < 0) := funext fun j => (decide_eq_false (by omega)).symm;rw [h0];refine Zuv (fun c => mk (ownE ts xs fun j => decide (j < c)) (ownN ts xs fun j => decide (j < c))) N (fun c hc K h => ?_) hend;obtain ⟨es, hes⟩ : ∃ es, es = ownE ts xs fun j => decide (j < c) := ⟨_, rfl⟩;obtain ⟨gn, hgn⟩ : ∃ gn, gn = ownN ts xs fun j => decide (j < c) := ⟨_, rfl⟩;rw [<- hes, <- hgn];have hkl : k < (mk es gn).H.length := by have := hk es gn; rw [Z1u] at this; exact (List.getElem?_eq_some_iff.1 this).1
 have hgl : kg < (mk es gn).H.length := by have := hg es gn; rw [Z1u] at this; exact (List.getElem?_eq_some_iff.1 this).1
 refine own_take k kg c (mk es gn).H.length hes hgn rfl (hk _ _) (hg _ _) hne (by omega) (hst c) rfl rfl fun es1 gn1 h1 h2 => ?_;refine Z193 (fz' := fun j => decide (j < c + 1)) k c (mk es gn).H.length h1 h2 ?_ ?_ (by omega) (fun _ _ => rfl) (fun j hj => decide_eq_decide.2 (by omega)) (decide_eq_true (Nat.lt_succ_self _)) rfl rfl fun es2 h3 h4 => ?_
 ·rw [Z1u, List.getElem?_append_left (by simpa using hkl)];exact List.getElem?_set_self (by simpa using hkl)
 ·rw [Z1u, List.getElem?_append_right (by simp)]; simp
 have e : (((((mk es gn).H.set kg (Blk.ob (.gr 3 gn1))).set k (Blk.elo 3 es1) ++ [Blk.els 3 (List.map Z14x (ts.getD c tkZ).works)]).set (mk es gn).H.length Blk.dead).set k (Blk.els 3 es2)) = (mk es2 gn1).H ++ [.dead] := by
  rw [List.set_append_right _ _ (by simp)];simp only [List.length_set, Nat.sub_self, List.set_cons_zero];rw [List.set_append_left _ _ (by simpa using hkl), List.set_set, hset]
 show GS m K { mk es gn with H := _ };rw [e];have e2 : ({ mk es gn with H := (mk es2 gn1).H ++ [.dead] } : St) = { mk es2 gn1 with H := (mk es2 gn1).H ++ [.dead] } := by
  rw [<- henv es gn es2 gn1]
 rw [e2, h3, h4];exact Z60 ix (hv _ _) h
end
end Go.Proofs.YtegjabljeepbdaaGreatDoor.Bn

namespace Go.Abs
open Go
section
variable {P : Program} {T : TT} {r : Option Nat} {m : Nat} {Q : AX -> St -> Prop} {K : D -> List Blk -> List AD -> Prop} {X : D -> List Blk -> Prop} {s : St} {o : Oper}
end
section
variable {P : Program} {F : Fz} {μ : Mu} {w : World} {m : Nat} {K : St -> Prop} {s : St}
theorem Z17t (k : Nat) {d : D} (hk : Z1m s.H k = some (.box d)) (h : GS m K { s with H := s.H.set k (.elo d.cells.length [d]) }) : GS m K s :=
 Z4i (fun F μ act w h1 => let ⟨g1, g2, g3⟩ := Zod (x := .elo d.cells.length [d]) (Z7c hk) rfl (fun _ _ e => by cases e) rfl (fun _ h => h) h1; ⟨F, μ, g2, g3, g1⟩) h
theorem Z17u (k : Nat) {d : D} {n : Nat} (hn : n = d.cells.length) (hk : Z1m s.H k = some (.elo n [d])) (h : GS m K { s with H := s.H.set k (.box d) }) : GS m K s :=
 Z4i (fun F μ act w h1 => let ⟨g1, g2, g3⟩ := Zod (x := .box d) (Z8e hk) (by subst hn; rfl) (fun _ _ e => by cases e) rfl (fun _ h => h) h1; ⟨F, μ, g2, g3, g1⟩) h
end
end Go.Abs

namespace Go.Abs
open Go
section
variable {P : Program} {T : TT} {r : Option Nat} {m : Nat} {Q : AX -> St -> Prop} {F : Fz} {μ : Mu} {w : World} {K : St -> Prop} {s : St}
theorem Z17v (kg k k' j i f : Nat) {sz isz : Nat} {es row : List D} {d : D} {ents : List Ent} (d' : Value -> D) (hg : Z1m s.H kg = some (.ob (.gr isz ents))) (hk : Z1m s.H k = some (.elo sz es)) (hk' : Z1m s.H k' = some (.els isz row)) (hnm : ∀ F μ a w, RL m F μ s a w -> μ k ≠ none)
  (hj : j <= ents.length) (hjo : ∀ e row', ents[j]? ≠ some (e, some row')) (hr0 : 0 < row.length) (hi : es[i]? = some d) (hf : d.cells[f]? = some (.o k' isz row.length)) (hd' : ∀ x, (d' x).cells = d.cells.set f (.v x))
  (h : ∀ x : Value, x.oneCell' = true -> GS m K { s with H := ((s.H.set k' .dead).set kg (.ob (.gr isz (Zfl ents j (x, some row))))).set k (.elo sz (es.set i (d' x))) }) : GS m K s := ⟨fun F μ act w h1 => by
 have hr := h1.hr
 have bk := Z8e hk
 have bk' := Z5f hk'
 have bg : Z13 s.H kg = some (.gr isz ents) := by rw [Z1u] at hg; rw [Z19 hg]; rfl
 have lk := Z7k bk; have lk' := Z7k bk'; have lg := Z2p bg
 have ne1 : k ≠ k' := by rintro rfl; rw [hk] at hk'; cases hk'
 have ne2 : kg ≠ k := by rintro rfl; rw [Z6w bg] at bk; cases bk
 have ne3 : kg ≠ k' := by rintro rfl; rw [Z6w bg] at bk'; cases bk'
 have hfr : FrL row := hr.fr k' _ (by rw [<- Z1u]; exact hk') _ _ rfl
 obtain ⟨o1, loc, o2, o3⟩ := hr.obj kg _ bg trivial
 rcases hr.row k sz es bk (hnm _ _ _ _ h1) with ⟨-, e0⟩ | ⟨b, M, c, t, e1, e2, e3, e4, e5⟩
 ·subst e0; simp at hi
 obtain ⟨z1, z2⟩ := e5 i _ hi
 obtain ⟨x, x1, x2, x3⟩ := z2 f _ hf
 obtain ⟨b0, m0, cap, q1, q2, q3, rfl⟩ : ∃ b0 m0 cap, μ k' = some (some (b0, m0)) /\ row.length <= cap /\ cap * isz <= m0 /\ x = .slice (some ⟨b0, 0, none⟩) row.length cap := by
  generalize hn : row.length = n at x3
  cases x3 with
  | cl _ _ hc => cases hc
  | o _ _ _ b0 m0 cap g1 g2 g3 => exact ⟨b0, m0, cap, g1, by omega, g3, rfl⟩
  | oNil => omega
 rcases hr.row k' isz row bk' (by rw [q1]; simp) with ⟨e0, -⟩ | ⟨b1, m1, c1, t1, f1, f2, f3, f4, f5⟩
 ·rw [q1] at e0; cases e0
 rw [q1] at f1; cases f1
 let μ' : Mu := ⟨μ.loc, fun a b => if a = kg then μ.inn kg b ∨ b = b0 else μ.inn a b⟩
 let H' : List Blk := ((s.H.set k' .dead).set kg (.ob (.gr isz (Zfl ents j (.slice (some ⟨b0, 0, none⟩) row.length cap, some row))))).set k (.elo sz (es.set i (d' (.slice (some ⟨b0, 0, none⟩) row.length cap))))
 have hget : ∀ a, H'[a]? = if a = k then some (.elo sz (es.set i (d' (.slice (some ⟨b0, 0, none⟩) row.length cap)))) else if a = kg then some (.ob (.gr isz (Zfl ents j (.slice (some ⟨b0, 0, none⟩) row.length cap, some row)))) else if a = k' then some .dead else s.H[a]? := fun a => by
  simp only [H', List.getElem?_set, List.length_set]
  by_cases a1 : a = k
  ·subst a1; simp [lk]
  ·have a1' : ¬ k = a := fun e => a1 e.symm
   by_cases a2 : a = kg
   ·subst a2; simp [a1, a1', lg]
   ·have a2' : ¬ kg = a := fun e => a2 e.symm
    by_cases a3 : a = k'
    ·subst a3; simp [a1, a1', a2, a2', lk']
    ·have a3' : ¬ k' = a := fun e => a3 e.symm
     simp only [if_neg a1, if_neg a1', if_neg a2, if_neg a2', if_neg a3, if_neg a3']
 have gk := hget k; rw [if_pos rfl] at gk
 have gg := hget kg; rw [if_neg ne2, if_pos rfl] at gg
 have gd := hget k'; rw [if_neg (Ne.symm ne1), if_neg (Ne.symm ne3), if_pos rfl] at gd
 have hlv : Z20 H' k' = false := by rw [Z6x gd]; rfl
 have hown : ∀ a, μ.inn kg a -> a ≠ b0 := fun a ha e => by
  subst e
  exact ne3 (hr.inj kg k' a (Z2j bg) (Z15 bk') (.inr ha) (.inl ⟨_, q1⟩))
 have eC : ∀ a, ¬ (a = k ∨ a = kg ∨ a = k') -> a ≠ k /\ a ≠ kg /\ a ≠ k' := fun a h => ⟨fun e => h (.inl e), fun e => h (.inr (.inl e)), fun e => h (.inr (.inr e))⟩
 have upm : ∀ a y, μ a = some y -> μ' a = some y := fun _ _ e => e
 have r : HR F μ' H' w /\ Post F μ s.H w F μ' H' w /\ ∀ j y, μ j = some y -> μ' j = some y := by
  refine Z5e (μ' := μ') (w' := w) (H' := H') (fun a => a = k ∨ a = kg ∨ a = k') hr (by simp [H']) (fun a ha => by
   obtain ⟨n1, n2, n3⟩ := eC a ha
   rw [hget, if_neg n1, if_neg n2, if_neg n3]) (fun _ _ => rfl) (fun a b ha => by
   obtain ⟨-, n2, -⟩ := eC a ha
   show (if a = kg then _ else _) ↔ _
   rw [if_neg n2]) (fun _ _ _ e => e) (Nat.le_refl _) rfl rfl rfl (fun _ _ _ => rfl) (fun a b ha hl hft => ?_) (fun a a' b ha ha' hl hl' h4 h5 => ?_) (fun a ha hle => ?_) (fun _ a sz1 es1 ha hb1 hne => ?_) (fun a y ha hb1 b => ?_) (fun hmono a y ha hy _ => ?_) (fun a ha he b => ?_) (fun a y ha hy => ?_)
  ·
   rcases ha with rfl | rfl | rfl
   ·refine .inl ⟨a, .inl rfl, Z15 bk, ?_⟩
    rcases hft with hm | hi
    ·exact .inl hm
    ·change (if a = kg then _ else _) at hi
     rw [if_neg (Ne.symm ne2)] at hi; exact .inr hi
   ·rcases hft with hm | hi
    ·exact .inl ⟨a, .inr (.inl rfl), Z2j bg, .inl hm⟩
    ·change (if a = a then _ else _) at hi
     rw [if_pos rfl] at hi
     rcases hi with hi | rfl
     ·exact .inl ⟨a, .inr (.inl rfl), Z2j bg, .inr hi⟩
     ·exact .inl ⟨k', .inr (.inr rfl), Z15 bk', .inl ⟨_, q1⟩⟩
   ·rw [hlv] at hl; cases hl
  ·
   have key : ∀ a b, (a = k ∨ a = kg ∨ a = k') -> Z20 H' a = true -> Z40 μ' a b -> (a = k /\ Z40 μ k b) ∨ (a = kg /\ (Z40 μ kg b ∨ b = b0)) := fun a b ha hl hft => by
    rcases ha with rfl | rfl | rfl
    ·refine .inl ⟨rfl, ?_⟩
     rcases hft with hm | hi
     ·exact .inl hm
     ·change (if a = kg then _ else _) at hi
      rw [if_neg (Ne.symm ne2)] at hi; exact .inr hi
    ·refine .inr ⟨rfl, ?_⟩
     rcases hft with hm | hi
     ·exact .inl (.inl hm)
     ·change (if a = a then _ else _) at hi
      rw [if_pos rfl] at hi
      exact hi.elim (fun h => .inl (.inr h)) .inr
    ·rw [hlv] at hl; cases hl
   rcases key a b ha hl h4 with ⟨rfl, g1⟩ | ⟨rfl, g1⟩ <;> rcases key a' b ha' hl' h5 with ⟨rfl, g2⟩ | ⟨rfl, g2⟩
   ·rfl
   ·exfalso
    rcases g2 with g2 | rfl
    ·exact ne2 (hr.inj a' a b (Z2j bg) (Z15 bk) g2 g1)
    ·exact ne1 (hr.inj a k' b (Z15 bk) (Z15 bk') g1 (.inl ⟨_, q1⟩))
   ·exfalso
    rcases g1 with g1 | rfl
    ·exact ne2 (hr.inj a a' b (Z2j bg) (Z15 bk) g1 g2)
    ·exact ne1 (hr.inj a' k' b (Z15 bk) (Z15 bk') g2 (.inl ⟨_, q1⟩))
   ·rfl
  ·simp [H'] at hle
   rcases ha with rfl | rfl | rfl <;> omega
  ·rcases ha with rfl | rfl | rfl
   ·rw [Z1s gk] at hb1
    simp only [Blk.es, Option.some.injEq, Prod.mk.injEq] at hb1
    obtain ⟨rfl, rfl⟩ := hb1
    refine .inr ⟨b, M, c, t, e1, e2, e3, by simpa using e4, fun j1 y1 hy1 => ?_⟩
    rw [List.getElem?_set] at hy1
    split at hy1
    ·rename_i e; subst e
     split at hy1
     ·cases hy1
      refine ⟨by rw [hd']; simpa using z1, fun r1 d1 hd1 => ?_⟩
      rw [hd', List.getElem?_set] at hd1
      split at hd1
      ·rename_i e; subst e
       split at hd1
       ·cases hd1; exact ⟨_, x1, x2, .cl _ _ (.v _ x2)⟩
       ·cases hd1
      ·obtain ⟨v, v1, v2, v3⟩ := z2 r1 d1 hd1
       exact ⟨v, v1, v2, v3.mono (fun _ _ _ e => e) upm⟩
     ·cases hy1
    ·obtain ⟨y2, y3⟩ := e5 j1 y1 hy1
     exact ⟨y2, fun r1 d1 hd1 => let ⟨v, v1, v2, v3⟩ := y3 r1 d1 hd1; ⟨v, v1, v2, v3.mono (fun _ _ _ e => e) upm⟩⟩
   ·rw [Z1s gg] at hb1; cases hb1
   ·rw [Z1s gd] at hb1; cases hb1
  ·rcases ha with rfl | rfl | rfl
   ·show ¬ (if a = kg then _ else _)
    rw [if_neg (Ne.symm ne2)]; exact hr.plain a _ bk b
   ·rw [Z1s gg] at hb1; cases hb1
   ·rw [Z1s gd] at hb1; cases hb1
  ·rcases ha with rfl | rfl | rfl
   ·rw [Z19 gk] at hy; cases hy
   ·rw [Z19 gg] at hy; cases hy
    refine ⟨o1, fun n => if n = j then b0 else loc n, fun n e row1 he => ?_, fun n n' e e' row1 row2 he he' hh => ?_⟩
    ·rw [Zd8 _ hj] at he
     split at he
     ·rename_i en
      cases he
      refine ⟨c1, t1, cap, by simp only [if_pos en], q2, by rw [f3]; exact q3, by simp only [if_pos en]; exact f2, f5.mono (fun _ _ _ e => e) upm, hfr, ?_⟩
      show (if a = a then _ else _)
      rw [if_pos rfl]; exact .inr (by simp only [if_pos en])
     ·rename_i en
      obtain ⟨c2, t2, cap2, g1, g2, g3, g4, g5, g6, g7⟩ := o2 n e row1 he
      refine ⟨c2, t2, cap2, by simp only [if_neg en]; exact g1, g2, g3, by simp only [if_neg en]; exact g4, g5.mono (fun _ _ _ e => e) upm, g6, ?_⟩
      show (if a = a then _ else _)
      rw [if_pos rfl]; simp only [if_neg en]; exact .inl g7
    ·rw [Zd8 _ hj] at he he'
     by_cases n1 : n = j <;> by_cases n2 : n' = j
     ·omega
     ·exfalso
      rw [if_neg n2] at he'
      simp only [if_pos n1, if_neg n2] at hh
      obtain ⟨_, _, _, _, _, _, _, _, _, g7⟩ := o2 n' _ _ he'
      exact hown _ g7 hh.symm
     ·exfalso
      rw [if_neg n1] at he
      simp only [if_neg n1, if_pos n2] at hh
      obtain ⟨_, _, _, _, _, _, _, _, _, g7⟩ := o2 n _ _ he
      exact hown _ g7 hh
     ·rw [if_neg n1] at he; rw [if_neg n2] at he'
      simp only [if_neg n1, if_neg n2] at hh
      exact o3 n n' _ _ _ _ he he' hh
   ·rw [Z19 gd] at hy; cases hy
  ·rcases ha with rfl | rfl | rfl
   ·exact absurd (show μ a = none from he) (hnm _ _ _ _ h1)
   ·change μ a = none at he; rw [o1] at he; cases he
   ·change μ a = none at he; rw [q1] at he; cases he
  ·rcases ha with rfl | rfl | rfl
   ·rw [gk] at hy; cases hy; exact fun _ _ e => by cases e
   ·rw [gg] at hy; cases hy; exact fun _ _ e => by cases e
   ·rw [gd] at hy; cases hy; exact fun _ _ e => by cases e
 obtain ⟨r1, r2, r3⟩ := r
 have hob : ∀ a, Z13 s.H a = some .mk -> Z13 H' a = some .mk /\ ∀ b, μ.inn a b -> μ'.inn a b := fun a ha => by
  have n1 : a ≠ k := by rintro rfl; rw [Z6w ha] at bk; cases bk
  have n2 : a ≠ kg := by rintro rfl; rw [ha] at bg; cases bg
  have n3 : a ≠ k' := by rintro rfl; rw [Z6w ha] at bk'; cases bk'
  refine ⟨?_, fun b hb => ?_⟩
  ·unfold Z13 at ha ⊢; rw [hget, if_neg n1, if_neg n2, if_neg n3]; exact ha
  ·show (if a = kg then _ else _)
   rw [if_neg n2]; exact hb
 have rl : RL m F μ' { s with H := H' } act w := ⟨r1, ⟨fun t d ht => let ⟨v, v1, v2⟩ := h1.er.env t d ht; ⟨v, v1, v2.mono (fun _ _ _ e => e) r3⟩, h1.er.nt, h1.er.dfs.mono (fun _ _ _ e => e) r3 (fun a ha => hob a ha)⟩, by simpa [H'] using h1.len⟩
 obtain ⟨F2, μ2, s2, k1, k2, k3, k4, k5⟩ := (h _ x2).out F μ' act w rl
 exact ⟨F2, μ2, s2, r2.trans k1, Kp.trans (H := s.H) (H' := H') (μ := μ) (μ' := μ') ⟨fun _ _ => rfl, fun a _ ha => hob a ha⟩ k2, k3, fun d v hd hv => k4 d v hd (hv.mono (fun _ _ _ e => e) r3), k5⟩⟩
theorem Z19h {k t off : Nat} (h : Z1c s.env t = some (.b k off)) : ∀ F μ a w, RL m F μ s a w -> μ k ≠ none := fun F μ a w hr => by
 obtain ⟨v, -, hv⟩ := hr.er.env t _ h
 cases hv with
 | cl _ _ hc => cases hc
 | b _ _ b m hμ => rw [hμ]; simp
end
end Go.Abs

/- Part MachG of the proofs about the benches of the accordion maker: see the last text of the claim for what is proved. -/
import Derived.Test.YtmloogdalecilaaDoorMachF
set_option linter.unusedVariables false
set_option linter.unusedSimpArgs false
set_option linter.unnecessarySimpa false
set_option linter.constructorNameAsVariable false

/-! A64 -/
namespace Go.Abs
open Go

/-- The elements: el j c is the element at j whose cell is c. -/
def shopE (isz : Nat) (el : Nat → D → D) (xs : List Value) (rows : List (List D)) (fz : Nat → Bool) : List D := (List.range xs.length).map fun j => el j (if fz j then .sl isz (rows.getD j []) else .v (xs.getD j nilS))
def shopN (xs : List Value) (rows : List (List D)) (fz : Nat → Bool) : List Ent := (List.range xs.length).map fun j => (xs.getD j nilS, if fz j then none else some (rows.getD j []))

theorem shopE_len (isz el xs rows fz) : (shopE isz el xs rows fz).length = xs.length := by simp [shopE]
theorem shopN_len (xs rows fz) : (shopN xs rows fz).length = xs.length := by simp [shopN]
theorem shopE_get {isz el} {xs : List Value} {rows fz j} (h : j < xs.length) : (shopE isz el xs rows fz)[j]? = some (el j (if fz j then .sl isz (rows.getD j []) else .v (xs.getD j nilS))) := by simp [shopE, h]
theorem shopN_get {xs : List Value} {rows fz j} (h : j < xs.length) : (shopN xs rows fz)[j]? = some (xs.getD j nilS, if fz j then none else some (rows.getD j [])) := by simp [shopN, h]

theorem shopE_upd {isz : Nat} {el el' : Nat → D → D} {xs xs' : List Value} {rows rows' : List (List D)} {fz fz' : Nat → Bool} {t : Nat} {d : D} (hl : xs'.length = xs.length) (hel : ∀ j, j ≠ t → el' j = el j) (hx : ∀ j, j ≠ t → xs'.getD j nilS = xs.getD j nilS)
    (hr : ∀ j, j ≠ t → rows'.getD j [] = rows.getD j []) (hf : ∀ j, j ≠ t → fz' j = fz j) (hd : d = el' t (if fz' t then .sl isz (rows'.getD t []) else .v (xs'.getD t nilS))) : (shopE isz el xs rows fz).set t d = shopE isz el' xs' rows' fz' := by
  refine List.ext_getElem? fun j => ?_
  by_cases hj : j < xs.length
  · rw [shopE_get (by omega), List.getElem?_set]
    by_cases e : t = j
    · subst e; rw [if_pos rfl, if_pos (by rw [shopE_len]; exact hj), hd]
    · have e' : j ≠ t := fun h => e h.symm
      rw [if_neg e, shopE_get hj, hel j e', hx j e', hr j e', hf j e']
  · rw [List.getElem?_eq_none (by rw [List.length_set, shopE_len]; omega), List.getElem?_eq_none (by rw [shopE_len]; omega)]
theorem shopN_upd {xs xs' : List Value} {rows rows' : List (List D)} {fz fz' : Nat → Bool} {t : Nat} {d : Ent} (hl : xs'.length = xs.length) (hx : ∀ j, j ≠ t → xs'.getD j nilS = xs.getD j nilS)
    (hr : ∀ j, j ≠ t → rows'.getD j [] = rows.getD j []) (hf : ∀ j, j ≠ t → fz' j = fz j) (hd : d = (xs'.getD t nilS, if fz' t then none else some (rows'.getD t []))) : (shopN xs rows fz).set t d = shopN xs' rows' fz' := by
  refine List.ext_getElem? fun j => ?_
  by_cases hj : j < xs.length
  · rw [shopN_get (by omega), List.getElem?_set]
    by_cases e : t = j
    · subst e; rw [if_pos rfl, if_pos (by rw [shopN_len]; exact hj), hd]
    · have e' : j ≠ t := fun h => e h.symm
      rw [if_neg e, shopN_get hj, hx j e', hr j e', hf j e']
  · rw [List.getElem?_eq_none (by rw [List.length_set, shopN_len]; omega), List.getElem?_eq_none (by rw [shopN_len]; omega)]
theorem shopE_fr {isz : Nat} {el : Nat → D → D} {xs : List Value} {rows : List (List D)} {fz : Nat → Bool} (hel : ∀ j c, frD c = true → frD (el j c) = true) : FrL (shopE isz el xs rows fz) := ⟨fun d hd => by
  obtain ⟨j, -, rfl⟩ := List.mem_map.1 hd
  refine hel j _ ?_
  split <;> rfl⟩

theorem getD_setV {xs : List Value} {t : Nat} {x : Value} (ht : t < xs.length) (j : Nat) : (xs.set t x).getD j nilS = if j = t then x else xs.getD j nilS := by
  rw [List.getD_eq_getElem?_getD, List.getElem?_set]
  by_cases e : t = j
  · subst e; rw [if_pos rfl, if_pos ht, if_pos rfl]; rfl
  · rw [if_neg e, if_neg (fun h => e h.symm), List.getD_eq_getElem?_getD]

section
variable {m : Nat} {K : St → Prop} {s : St}

/-- A row is taken out; L is the place where it comes to lie. -/
theorem shop_take (k kg t L : Nat) {esz isz fi : Nat} {el : Nat → D → D} {xs : List Value} {rows : List (List D)} {fz : Nat → Bool} (hL : L = s.H.length) (hk : nthB s.H k = some (.els esz (shopE isz el xs rows fz))) (hg : nthB s.H kg = some (.ob (.gr isz (shopN xs rows fz)))) (hne : k ≠ kg)
    (ht : t < xs.length) (hf : fz t = false) {r : List D} (hr : r = rows.getD t []) (hel1 : ∀ c, (el t c).cells[fi]? = some c) (hel2 : ∀ c c', (el t c').cells = (el t c).cells.set fi c')
    (h : GS m K { s with H := (((s.H.set k (.elo esz (shopE isz el xs rows fz))).set kg (.ob (.gr isz ((shopN xs rows fz).set t (xs.getD t nilS, none))))).set k (.elo esz ((shopE isz el xs rows fz).set t (el t (.o L isz r.length))))) ++ [.els isz r] }) : GS m K s := by
  have hkl : k < s.H.length := by rw [nthB_eq] at hk; exact (List.getElem?_eq_some_iff.1 hk).1
  refine gs_elo k hk ?_
  have hg' := shopE_get (isz := isz) (el := el) (rows := rows) (fz := fz) ht
  rw [hf, if_neg (by decide)] at hg'
  have hn := shopN_get (rows := rows) (fz := fz) ht
  rw [hf, if_neg (by decide), ← hr] at hn
  refine gs_grTake kg k t t fi (el t (.o L isz r.length)) (ents := shopN xs rows fz) (es := shopE isz el xs rows fz) (d := el t (.v (xs.getD t nilS))) ?_ ?_ hn hg' (hel1 _) ?_ h
  · show nthB (s.H.set k _) kg = _
    rw [nthB_eq, List.getElem?_set_ne hne, ← nthB_eq]; exact hg
  · show nthB (s.H.set k _) k = _
    rw [nthB_eq, List.getElem?_set_self hkl]
  · show _ = (D.cells _).set fi (.o (s.H.set k _).length isz r.length)
    rw [List.length_set, ← hL]; exact hel2 _ _

end
end Go.Abs

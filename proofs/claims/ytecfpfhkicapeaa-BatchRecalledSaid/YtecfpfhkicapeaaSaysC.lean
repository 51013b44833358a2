/- Part SaysC of the proofs about the benches of the accordion maker: see the last text of the claim for what is proved. -/
import Derived.Test.YtecfpfhkicapeaaSaysB
set_option linter.unusedVariables false
set_option linter.unusedSimpArgs false
set_option linter.unnecessarySimpa false
set_option linter.constructorNameAsVariable false

/-! B15 -/
namespace Go.Batch
/-- So much of each batch. -/
structure WayO (fifo : Bool) (bin : Int) (bs : List Int) (i : Nat) (l : List Int) (a : Int) (of : List Int) : Prop where
  tk : Took fifo bin bs i l of
  sum : sumO of bs i = a
  len : of.length = 4
  out : ∀ k, k < i ∨ i + bs.length ≤ k → of.getD k 0 = 0
end Go.Batch

/-! B16 -/
namespace Go.Batch
structure FirR (bin : Int) (bs : List Int) (i : Nat) (l out : List Int) (a : Int) (p : List Int × Int) : Prop where
  len : p.1.length = 4
  nn : 0 ≤ p.2
  le : p.2 ≤ a
  lt : ∀ k, k < i → p.1.getD k 0 = out.getD k 0
  way : p.2 = 0 → ∀ of, of.length = 4 → (∀ k, k < i → of.getD k 0 = 0) → (∀ k, i ≤ k → of.getD k 0 = p.1.getD k 0) → WayO true bin bs i l a of
  one : ∀ of, WayO true bin bs i l a of → p.2 = 0 ∧ ∀ k, i ≤ k → of.getD k 0 = p.1.getD k 0
end Go.Batch

/-! B17 -/
namespace Go.Batch
/-- What is followed, and of which instrument, batch, or batches. -/
structure Ask where
  kind : Int
  inst : Int
  batch : Int
  batches : List Int
def comeN (j : Jn) (k : Nat) : Nat := (binsOf (j.moves.take k)).length
theorem comeN_0 (j : Jn) : comeN j 0 = 0 := by simp [comeN, binsOf]
theorem comeN_succ {j : Jn} {k : Nat} {m : Mv} (h : j.moves[k]? = some m) : comeN j (k + 1) = comeN j k + if m.kind = 1 then 1 else 0 := by
  unfold comeN
  rw [List.take_add_one, h]
  simp only [Option.toList]
  rw [binsOf_app, List.length_append, binsOf_cons]
  split <;> simp [binsOf]
theorem insM_at {j : Jn} {k : Nat} {m : Mv} (h : j.moves[k]? = some m) (hk : m.kind = 1) : (insM j.moves)[comeN j k]? = some m := by
  obtain ⟨hl, he⟩ := List.getElem?_eq_some_iff.1 h
  have e : j.moves = j.moves.take k ++ m :: j.moves.drop (k + 1) := by
    conv => lhs; rw [← List.take_append_drop k j.moves]
    rw [List.drop_eq_getElem_cons hl, he]
  have e2 : insM j.moves = insM (j.moves.take k) ++ m :: insM (j.moves.drop (k + 1)) := by
    conv => lhs; rw [e]
    unfold insM
    rw [List.filter_append, List.filter_cons, if_pos (by simp [hk])]
  rw [e2, List.getElem?_append_right (by rw [insM_len]; exact Nat.le_refl _), insM_len]
  show (m :: _)[comeN j k - comeN j k]? = _
  rw [Nat.sub_self]; rfl
theorem come_lt {j : Jn} {k : Nat} {m : Mv} (h : j.moves[k]? = some m) (hk : m.kind = 1) : comeN j k < (binsOf j.moves).length := by
  have := (List.getElem?_eq_some_iff.1 (insM_at h hk)).1
  rwa [insM_len] at this
theorem rest_b {j : Jn} (hj : JOk j) (hs : standsJ j = true) {b : Nat} {r : Int × Int} (hr : (restJ j)[b]? = some r) : 0 ≤ r.1 ∧ r.1 ≤ r.2 ∧ r.2 ≤ 5 := by
  have e : r = rangeI ((endsS j tkNone 0).map fun s => s.1.getD b 0) := by
    unfold restJ at hr
    rw [List.getElem?_map] at hr
    cases e : (List.range (binsOf j.moves).length)[b]? with
    | none => rw [e] at hr; simp at hr
    | some c =>
      rw [e] at hr
      obtain ⟨g1, g2⟩ := List.getElem?_eq_some_iff.1 e
      simp at g2 hr; subst g2; exact hr.symm
  have hne : ((endsS j tkNone 0).map fun s => s.1.getD b 0) ≠ [] := fun h => stands_ne hs tkNone (List.map_eq_nil_iff.1 h)
  obtain ⟨s, hs1, e1⟩ := List.mem_map.1 (leastI_mem hne)
  obtain ⟨t, ht1, e2⟩ := List.mem_map.1 (mostI_mem hne)
  have g1 := (endsS_sok tkB_none hj s hs1).l.lo b
  have g2 := (endsS_sok tkB_none hj t ht1).l.hi b
  have h1 : r.1 = leastI ((endsS j tkNone 0).map fun s => s.1.getD b 0) := by rw [e]; rfl
  have h2 : r.2 = mostI ((endsS j tkNone 0).map fun s => s.1.getD b 0) := by rw [e]; rfl
  have h3 := least_most hne
  exact ⟨by omega, by omega, by omega⟩
/-- All that holds of a state on the way. -/
structure FOk (come : Nat) (s : Ste Int) : Prop where
  l : LOk s.1
  n0 : 0 ≤ s.2
  n15 : s.2 ≤ 15
  z : ∀ k, come ≤ k → s.1.getD k 0 = 0
/-- A state as a place in a list. -/
def packL (l : List Int) : Nat := (l.getD 0 0 + 6 * (l.getD 1 0 + 6 * (l.getD 2 0 + 6 * l.getD 3 0))).toNat
def placeS (s : Ste Int) : Nat := s.2.toNat * 1296 + packL s.1
def unpackL (n : Nat) : List Int := [((n % 6 : Nat) : Int), ((n / 6 % 6 : Nat) : Int), ((n / 36 % 6 : Nat) : Int), ((n / 216 % 6 : Nat) : Int)]
theorem packL_lt {l : List Int} (h : LOk l) : packL l < 1296 := by
  have a0 := h.lo 0; have a1 := h.lo 1; have a2 := h.lo 2; have a3 := h.lo 3
  have b0 := h.hi 0; have b1 := h.hi 1; have b2 := h.hi 2; have b3 := h.hi 3
  unfold packL; omega
theorem unpack_pack {l : List Int} (h : LOk l) : unpackL (packL l) = l := by
  have a0 := h.lo 0; have a1 := h.lo 1; have a2 := h.lo 2; have a3 := h.lo 3
  have b0 := h.hi 0; have b1 := h.hi 1; have b2 := h.hi 2; have b3 := h.hi 3
  obtain ⟨a, b, c, d, e⟩ : ∃ a b c d, l = [a, b, c, d] := by
    have := h.len
    match l, this with
    | [a, b, c, d], _ => exact ⟨a, b, c, d, rfl⟩
  subst e
  simp only [List.getD_cons_zero, List.getD_cons_succ] at a0 a1 a2 a3 b0 b1 b2 b3
  unfold packL unpackL
  simp only [List.getD_cons_zero, List.getD_cons_succ]
  congr 1
  · omega
  congr 1
  · omega
  congr 1
  · omega
  congr 1
  omega
theorem pack_unpack {n : Nat} (h : n < 1296) : packL (unpackL n) = n := by
  unfold packL unpackL
  simp only [List.getD_cons_zero, List.getD_cons_succ]
  omega
/-- The state of a place. -/
def stateS (n : Nat) : Ste Int := (unpackL (n % 1296), ((n / 1296 : Nat) : Int))
theorem place_state {n : Nat} : placeS (stateS n) = n := by
  unfold placeS stateS
  simp only
  rw [pack_unpack (by omega)]
  omega
theorem state_place {s : Ste Int} (h : LOk s.1) (h0 : 0 ≤ s.2) : stateS (placeS s) = s := by
  have := packL_lt h
  unfold stateS placeS
  rw [show (s.2.toNat * 1296 + packL s.1) % 1296 = packL s.1 by omega, show (s.2.toNat * 1296 + packL s.1) / 1296 = s.2.toNat by omega, unpack_pack h]
  exact Prod.ext rfl (by simp only; omega)
theorem place_lt {s : Ste Int} (h : LOk s.1) (h0 : 0 ≤ s.2) (h15 : s.2 ≤ 15) : placeS s < 20736 := by
  have := packL_lt h
  unfold placeS; omega
/-- A list that tells which states there are. -/
structure Marks (L : List Bool) (S : Ste Int → Prop) : Prop where
  len : L.length = 20736
  at_ : ∀ n, n < 20736 → (L[n]? = some true ↔ S (stateS n))
theorem Marks.set {L : List Bool} {S : Ste Int → Prop} (h : Marks L S) {s : Ste Int} (hl : LOk s.1) (h0 : 0 ≤ s.2) (h15 : s.2 ≤ 15) : Marks (L.set (placeS s) true) fun x => S x ∨ x = s := by
  have hp := place_lt hl h0 h15
  refine ⟨by rw [List.length_set]; exact h.len, fun n hn => ?_⟩
  rw [List.getElem?_set]
  by_cases e : placeS s = n
  · subst e
    rw [if_pos rfl, if_pos (by rw [h.len]; exact hp), state_place hl h0]
    simp
  · rw [if_neg e, h.at_ n hn]
    constructor
    · exact .inl
    · rintro (g | g)
      · exact g
      · exact absurd (by rw [← g, place_state]) e
theorem Marks.congr {L : List Bool} {S T : Ste Int → Prop} (h : Marks L S) (e : ∀ x, S x ↔ T x) : Marks L T := ⟨h.len, fun n hn => by rw [h.at_ n hn, e]⟩
/-- The states before some place. -/
def before (S : List (Ste Int)) (n : Nat) (s : Ste Int) : Prop := s ∈ S ∧ placeS s < n
end Go.Batch

/- Part RenA of the proofs about the benches of the accordion maker: see the last text of the claim for what is proved. -/
import Derived.Test.YtecfpfhkicapeaaSaysA
import Derived.Test.YtecfpfhkicapeaaBatG
import Derived.Test.YtecfpfhkicapeaaBatH
import Derived.Test.YtecfpfhkicapeaaBatE
set_option linter.unusedVariables false
set_option linter.unusedSimpArgs false
set_option linter.unnecessarySimpa false
set_option linter.constructorNameAsVariable false

/-! B9 -/
namespace Go.Batch

/-- The numbers that an order gives. -/
def permI (q : List Nat) (i : Int) : Int := (q.getD i.toNat 0 : Nat)

theorem permI_ok {q : List Nat} {n : Nat} {ins : Int} (h : q.Perm (List.range n)) (hn : ins = n) : RenOk ins (permI q) := by
  have hl : q.length = n := by rw [h.length_eq, List.length_range]
  have hnd : q.Nodup := h.nodup_iff.2 List.nodup_range
  have get : ∀ i : Int, 0 ≤ i → i < ins → ∃ hi : i.toNat < q.length, permI q i = (q[i.toNat] : Nat) := fun i h0 h1 => ⟨by omega, by
    unfold permI; rw [List.getD_eq_getElem?_getD, List.getElem?_eq_getElem (by omega)]; rfl⟩
  refine ⟨fun i h0 h1 => ?_, fun i k h0 h1 h2 h3 e => ?_, fun k h0 h1 => ?_⟩
  · obtain ⟨hi, e⟩ := get i h0 h1
    have : q[i.toNat] < n := List.mem_range.1 (h.mem_iff.1 (List.getElem_mem hi))
    rw [e]; omega
  · obtain ⟨hi, e1⟩ := get i h0 h1
    obtain ⟨hk, e2⟩ := get k h2 h3
    rw [e1, e2] at e
    have := (List.getElem_inj hnd (h₀ := hi) (h₁ := hk)).1 (by omega)
    omega
  · have hm : k.toNat ∈ q := h.mem_iff.2 (List.mem_range.2 (by omega))
    obtain ⟨i, hi, e⟩ := List.mem_iff_getElem.1 hm
    exact ⟨i, by omega, by omega, by
      obtain ⟨hi', e'⟩ := get (i : Int) (by omega) (by omega)
      rw [e']
      have : q[((i : Int)).toNat] = q[i] := by congr 1
      rw [this, e]; omega⟩

/-- y says of π i what x says of i. -/
structure RenJ (π : Int → Int) (x y : Jn) : Prop where
  ins : y.ins = x.ins
  first : y.first = x.first
  bins : binsOf y.moves = binsOf x.moves
  ok : JOk y
  ends : ∀ (tk tk' : Tk Int) (z : Int), Comm tk' → (∀ v i b n, 0 ≤ i → i < x.ins → tk v i b n = tk' v (π i) b n) → ∀ s, s ∈ endsS y tk' z ↔ s ∈ endsS x tk z

theorem renMv_ok {j : Jn} {π : Int → Int} (hp : RenOk j.ins π) {m : Mv} (h : MOk j m) : MOk j (renMv π m) := by
  unfold renMv
  split
  · rename_i g
    have := hp.rng m.inst g.2 (h.i1 g.1)
    exact ⟨h.k1, h.k3, h.b0, h.b1, fun _ => by show -1 ≤ π m.inst; omega, fun _ => this.2, fun e => absurd g.1 e, h.l0, h.lh, h.h5⟩
  · exact h

theorem renJ_map {x : Jn} {π : Int → Int} (hp : RenOk x.ins π) (hx : JOk x) : RenJ π x { x with moves := x.moves.map (renMv π) } where
  ins := rfl
  first := rfl
  bins := binsOf_ren π _
  ok := ⟨hx.i1, hx.i4, hx.f1, hx.f2, by show (x.moves.map (renMv π)).length ≤ 10; rw [List.length_map]; exact hx.m10, fun m hm => by
    obtain ⟨m0, h0, rfl⟩ := List.mem_map.1 hm
    have := renMv_ok hp (hx.mv m0 h0)
    exact ⟨this.k1, this.k3, this.b0, this.b1, this.i0, this.i1, this.i2, this.l0, this.lh, this.h5⟩, by show (binsOf (x.moves.map (renMv π))).length ≤ 4; rw [binsOf_ren]; exact hx.b4⟩
  ends := fun tk tk' z _ h s => by
    unfold endsS
    show s ∈ endsF { x with moves := x.moves.map (renMv π) } tk' (binsOf (x.moves.map (renMv π))) (x.moves.map (renMv π)) 0 _ ↔ _
    rw [binsOf_ren, endsF_j (j := { x with moves := x.moves.map (renMv π) }) (j' := x) rfl rfl]
    exact endsF_ren hp h x.moves 0 _ _ hx.mv (fun _ => Iff.rfl) s

theorem renJ_swap {x y : Jn} {π : Int → Int} (h : RenJ π x y) {ms ms' : List Mv} {m m' : Mv} (hm : y.moves = ms ++ m :: m' :: ms') (hb : m.bin ≠ m'.bin) (hk : m.kind ≠ 1 ∨ m'.kind ≠ 1) : RenJ π x { y with moves := ms ++ m' :: m :: ms' } where
  ins := h.ins
  first := h.first
  bins := by rw [← h.bins, hm, binsOf_swap ms ms' hk]
  ok := ⟨h.ok.i1, h.ok.i4, h.ok.f1, h.ok.f2, by
    have := h.ok.m10; rw [hm] at this; simpa using this, fun a ha => by
    have g := h.ok.mv a (by
      rw [hm]
      simp only [List.mem_append, List.mem_cons] at ha ⊢
      rcases ha with ha | ha | ha | ha
      · exact .inl ha
      · exact .inr (.inr (.inl ha))
      · exact .inr (.inl ha)
      · exact .inr (.inr (.inr ha)))
    exact ⟨g.k1, g.k3, g.b0, g.b1, g.i0, g.i1, g.i2, g.l0, g.lh, g.h5⟩, by
    have := h.ok.b4; rw [hm] at this
    show (binsOf (ms ++ m' :: m :: ms')).length ≤ 4
    rw [binsOf_swap ms ms' hk.symm]; exact this⟩
  ends := fun tk tk' z hc hr s => by
    obtain ⟨ins, first, moves⟩ := y
    simp only at hm
    subst hm
    rw [← h.ends tk tk' z hc hr s]
    exact ⟨fun hs => ends_swap hc (fun e => hb e.symm) hk.symm z s hs, fun hs => ends_swap hc hb hk z s hs⟩

section
variable {π : Int → Int} {x y : Jn}

theorem RenJ.amt (h : RenJ π x y) (hp : RenOk x.ins π) {i : Int} (h0 : 0 ≤ i) (h1 : i < x.ins) (b : Nat) : noteR y (tkAmt (π i) b) = noteR x (tkAmt i b) := by
  unfold noteR
  refine rangeI_congr fun v => ?_
  have e := h.ends (tkAmt i b) (tkAmt (π i) b) 0 (comm_amt _ _) (fun v i' b' n g0 g1 => by
    unfold tkAmt
    by_cases e : i' = i
    · subst e; simp
    · have : π i' ≠ π i := fun g => e (hp.inj i' i g0 g1 h0 h1 g)
      rw [if_neg (fun g => e g.1), if_neg (fun g => this g.1)])
  simp only [List.mem_map, e]

theorem RenJ.mix (h : RenJ π x y) (hp : RenOk x.ins π) {i : Int} (h0 : 0 ≤ i) (h1 : i < x.ins) : rangeI ((endsS y (tkMix (π i)) 0).map fun s => moreB s.2) = rangeI ((endsS x (tkMix i) 0).map fun s => moreB s.2) := by
  refine rangeI_congr fun v => ?_
  have e := h.ends (tkMix i) (tkMix (π i)) 0 (comm_mix _) (fun v i' b' n g0 g1 => by
    unfold tkMix
    by_cases e : i' = i
    · subst e; simp
    · have : π i' ≠ π i := fun g => e (hp.inj i' i g0 g1 h0 h1 g)
      rw [if_neg e, if_neg this])
  simp only [List.mem_map, e]

theorem RenJ.none (h : RenJ π x y) (s : Ste Int) : s ∈ endsS y tkNone 0 ↔ s ∈ endsS x tkNone 0 := h.ends tkNone tkNone 0 comm_none (fun _ _ _ _ _ _ => rfl) s

theorem RenJ.rest (h : RenJ π x y) : restJ y = restJ x := by
  unfold restJ
  rw [h.bins]
  refine List.map_congr_left fun i _ => rangeI_congr fun v => ?_
  simp only [List.mem_map, h.none]

theorem RenJ.stands (h : RenJ π x y) (hs : standsJ x = true) : standsJ y = true := by
  unfold standsJ at hs ⊢
  cases he : endsS x tkNone 0 with
  | nil => rw [he] at hs; cases hs
  | cons a l =>
    have := (h.none a).2 (by rw [he]; simp)
    cases hy : endsS y tkNone 0 with
    | nil => rw [hy] at this; simp at this
    | cons b m => rfl

theorem RenJ.holds (h : RenJ π x y) (hp : RenOk x.ins π) {N : Nat} (hN : x.ins = N) {n p : Nat} (hn : n < N) (e : π (n : Int) = (p : Nat)) : ∃ r, (holdsJ x)[n]? = some r ∧ (holdsJ y)[p]? = some r ∧ r.length = (binsOf x.moves).length := by
  have hpN : p < N := by have := hp.rng n (by omega) (by omega); omega
  refine ⟨(List.range (binsOf x.moves).length).map fun b => verdI (noteR x (tkAmt (n : Int) b)), ?_, ?_, by simp⟩
  · unfold holdsJ
    rw [hN, Int.toNat_natCast, List.getElem?_map, List.getElem?_range hn]; rfl
  · unfold holdsJ
    rw [h.ins, h.bins, hN, Int.toNat_natCast, List.getElem?_map, List.getElem?_range hpN]
    refine congrArg some (List.map_congr_left fun b _ => ?_)
    rw [← e, h.amt hp (by omega) (by omega)]

theorem RenJ.mixed (h : RenJ π x y) (hp : RenOk x.ins π) {N : Nat} (hN : x.ins = N) {n p : Nat} (hn : n < N) (e : π (n : Int) = (p : Nat)) : ∃ v, (mixedJ x)[n]? = some v ∧ (mixedJ y)[p]? = some v := by
  have hpN : p < N := by have := hp.rng n (by omega) (by omega); omega
  refine ⟨verdI (rangeI ((endsS x (tkMix (n : Int)) 0).map fun s => moreB s.2)), ?_, ?_⟩
  · unfold mixedJ
    rw [hN, Int.toNat_natCast, List.getElem?_map, List.getElem?_range hn]; rfl
  · unfold mixedJ
    rw [h.ins, hN, Int.toNat_natCast, List.getElem?_map, List.getElem?_range hpN]
    refine congrArg some ?_
    show verdI _ = verdI _
    rw [← e, h.mix hp (by omega) (by omega)]

end
end Go.Batch

/-! D28 -/
namespace Go.Proofs.Ytecfpfhkicapeaa
open Go Go.Abs Go.Proofs

theorem perm_set {l : List Nat} {k x y : Nat} (h : l[k]? = some y) : (l.set k x ++ [y]).Perm (l ++ [x]) := by
  induction l generalizing k with
  | nil => simp at h
  | cons a l ih =>
    cases k with
    | zero =>
      simp at h; subst h
      simp only [List.set_cons_zero, List.cons_append]
      refine (List.perm_append_comm (l₁ := x :: l) (l₂ := [a])).trans ?_
      simp only [List.cons_append, List.nil_append]
      refine List.Perm.cons _ ?_
      exact (List.perm_append_comm (l₁ := [x]) (l₂ := l))
    | succ k =>
      simp only [List.set_cons_succ, List.cons_append]
      exact (ih (by simpa using h)).cons a

set_option maxRecDepth 20000 in
set_option maxHeartbeats 2000000 in
/-- Pot.Mix. -/
theorem mix (x n : Int) (m : Nat) (hn : IsI n m) (hm : m ≤ 1000) (Q) (hq : ∀ (q : List Nat) (QL : List D) x', q.Perm (List.range m) → QL = natL q → Q (RA.ret (.sl 1 QL)) [pot x']) :
    CallA Try.prog 27 [.b 0 0, I n] [pot x] Q := by
  obtain ⟨A, hA⟩ : ∃ A, A = ar := ⟨_, rfl⟩
  have hmx : IsI (A.max 0 n) m := ⟨by rw [xmax hA]; have := hn.eq; omega⟩
  have hr0 : A.nneg (A.max 0 n) := by have := hmx.eq; subst hA; exact (show (0 : Int) ≤ ar.max 0 n by omega)
  have htn : A.tn (A.max 0 n) = m := ytn hA hmx
  have hr1 : A.room (A.tn (A.max 0 n)) 8 := by rw [htn]; subst hA; exact ⟨show m * 8 ≤ 140737488355328 by omega, show m ≤ 4611686018427387904 by omega⟩
  have hrep : A.rep (A.tn (A.max 0 n)) (I 0) = natL (List.replicate m 0) := by rw [htn]; subst hA; simp [natL, ar]
  refine callA_start tokT hA Try.func27 rfl rfl rfl rfl rfl fun S hS => ?_
  cbv
  refine ⟨hr0, hr1, ?_⟩
  refine at_code hS ?_
  refine wpa_loopG (α := Int × Nat × Int × List Nat × List D) (fun q => { env := [(0, .b 0 0), (1, I n), (5, .o 1 1 m), (6, I q.1)], H := [pot q.2.2.1, .els 1 q.2.2.2.2], nt := 31, dfs := [] })
    (fun q => m - q.2.1) (fun q => IsI q.1 q.2.1 ∧ q.2.1 ≤ m ∧ q.2.2.2.1.length = m ∧ (q.2.2.2.1.take q.2.1).Perm (List.range q.2.1) ∧ q.2.2.2.2 = natL q.2.2.2.1) (0, 0, x, List.replicate m 0, A.rep (A.tn (A.max 0 n)) (I 0)) ⟨⟨rfl⟩, Nat.zero_le _, by simp, by simp, hrep⟩ ?_ ?_
  · exact gs_to [0, 1] ⟨by decide, pre1, ⟨rfl, rfl, trivial⟩, ⟨rfl, rfl, by rw [← htn]; rfl, rfl, trivial⟩, rfl, rfl⟩
  rintro ⟨i, j, y, l, L⟩ ⟨u1, u2, u3, u4, u5⟩
  dsimp only at u1 u2 u3 u4 u5
  have hLl : L.length = m := by rw [u5]; simp [natL, u3]
  refine wp_go tokT hA hS ?_
  cbv
  refine bm (fun c => ?_) (fun c => ?_)
  · have hj : j < m := by have := xlt hA c; have := u1.eq; have := hn.eq; omega
    have hb : i ≤ 1000000000000 := by have := u1.eq; omega
    have hki : ∀ k : Int, 0 ≤ k → (k ≤ i ∨ k = 0) → k.toNat ≤ j := fun k h1 h2 => by have := u1.eq; omega
    have hin1 := yinb hA u1 hj
    have hf1 := yfit1 hA u1 (by omega)
    have hu1 := ysucc hA u1
    have hms : m - (j + 1) < m - j := by omega
    obtain ⟨lj, hlj⟩ : ∃ lj, lj = l[j] := ⟨_, rfl⟩
    have hlj' : l[j]? = some lj := by rw [hlj]; exact List.getElem?_eq_getElem (by omega)
    have hLj : L[j]? = some (I (lj : Nat)) := by rw [u5]; simp [natL, hlj']
    cbv
    refine ops_call hS [.b 0 0, I i] [0] [pot y] rfl rfl rfl rfl rfl rfl rfl rfl (by decide) ⟨rfl, trivial⟩ (upto y i hb _ fun k y' hk1 hk2 => ?_)
    have hkj := hki k hk1 hk2
    have hkI : IsI k k.toNat := ⟨by omega⟩
    obtain ⟨lk, hlk⟩ : ∃ lk, lk = l[k.toNat] := ⟨_, rfl⟩
    have hlk' : l[k.toNat]? = some lk := by rw [hlk]; exact List.getElem?_eq_getElem (by omega)
    have hLk : L[k.toNat]? = some (I (lk : Nat)) := by rw [u5]; simp [natL, hlk']
    have hin2 := yinb hA hkI (show k.toNat < m by omega)
    obtain ⟨l1, hl1⟩ : ∃ l1, l1 = l.set j lk := ⟨_, rfl⟩
    obtain ⟨l2, hl2⟩ : ∃ l2, l2 = l1.set k.toNat j := ⟨_, rfl⟩
    obtain ⟨lkI, hlkI⟩ : ∃ z : Int, z = (lk : Nat) := ⟨_, rfl⟩
    rw [← hlkI] at hLk
    have hs1 : A.set L (A.tn i) (I lkI) = natL l1 := yset hA u1 (by rw [hl1, u5, hlkI]; simp [natL])
    have hg2 : ∃ z, (natL l1)[k.toNat]? = some (I z) := by
      refine ⟨(l1[k.toNat]'(by rw [hl1]; simp; omega) : Nat), ?_⟩
      simp [natL, List.getElem?_eq_getElem (show k.toNat < l1.length by rw [hl1]; simp; omega)]
    obtain ⟨z, hz⟩ := hg2
    have hg3 : A.get (A.set L (A.tn i) (I lkI)) (A.tn k) = some (I z) := by rw [hs1]; exact yget hA hkI hz
    have hs2 : A.set (A.set L (A.tn i) (I lkI)) (A.tn k) (I i) = natL l2 := by
      rw [hs1]; exact yset hA hkI (by rw [hl2, u1.eq]; simp [natL])
    have hlen2 : l2.length = m := by rw [hl2, hl1]; simp [u3]
    have hper : (l2.take (j + 1)).Perm (List.range (j + 1)) := by
      rw [List.range_succ]
      refine List.Perm.trans ?_ (u4.append_right [j])
      have e1 : l.take (j + 1) = l.take j ++ [lj] := by rw [List.take_add_one, hlj']; rfl
      have hll : l.take j ++ [lj] = l.take (j + 1) := e1.symm
      have ht : (l.take j).length = j := by simp; omega
      have e3 : l2.take (j + 1) = ((l.take j ++ [lj]).set j lk).set k.toNat j := by rw [hl2, hl1, List.take_set, List.take_set, e1]
      have e4 : (l.take j ++ [lj]).set j lk = l.take j ++ [lk] := by
        rw [List.set_append_right _ _ (by omega), ht, Nat.sub_self, List.set_cons_zero]
      rw [e3, e4]
      by_cases hkk : k.toNat = j
      · rw [hkk, List.set_append_right _ _ (by omega), ht, Nat.sub_self, List.set_cons_zero]
      · have hlt : k.toNat < j := by omega
        rw [List.set_append_left _ _ (by omega)]
        exact perm_set (by rw [List.getElem?_take, if_pos hlt]; exact hlk')
    refine ops_go tokT hA hS ?_
    cbv
    refine ⟨hin2, ⟨_, yget hA hkI hLk, ?_⟩⟩
    cbv
    refine ⟨hin1, ⟨_, yget hA u1 hLj, ?_⟩⟩
    cbv
    refine ⟨hin2, ⟨_, hg3, ?_⟩⟩
    cbv
    refine ⟨hf1, ?_⟩
    refine gs_loop (A.add i 1, j + 1, y', l2, A.set (A.set L (A.tn i) (I lkI)) (A.tn k) (I i)) [0, 1] ⟨hu1, hj, hlen2, hper, hs2⟩ hms ?_
    exact ⟨by decide, pre1, ⟨rfl, rfl, trivial⟩, ⟨rfl, rfl, rfl, rfl, trivial⟩, rfl, rfl⟩
  · have hj : j = m := by have := xnlt hA c; have := u1.eq; have := hn.eq; omega
    have hper : l.Perm (List.range m) := by rw [hj, List.take_of_length_le (by omega)] at u4; exact u4
    cbv
    refine gs_done ?_
    cbv
    refine gh_frz [1] ?_
    cbv
    exact ⟨by cases L <;> exact hLl.symm, gh_view [0] (by decide) pre1 (H' := [pot y]) (d' := .sl 1 L) ⟨rfl, trivial⟩ rfl (gh_done (hq l L y hper u5))⟩
end Go.Proofs.Ytecfpfhkicapeaa

/-! T23 -/
namespace Go.Proofs.Ytecfpfhkicapeaa
open Go Go.Abs Go.Proofs Go.Batch

theorem swap_set {α : Type} {l : List α} {k : Nat} {a b : α} (h1 : l[k]? = some a) (h2 : l[k + 1]? = some b) : ∃ p r, l = p ++ a :: b :: r ∧ (l.set k b).set (k + 1) a = p ++ b :: a :: r := by
  refine ⟨l.take k, l.drop (k + 2), ?_, ?_⟩
  · rw [← drop_at h2, ← drop_at h1, List.take_append_drop]
  · have hk := (List.getElem?_eq_some_iff.1 h2).1
    refine List.ext_getElem? fun i => ?_
    rw [List.getElem?_set, List.getElem?_set, List.getElem?_append]
    simp only [List.length_take, List.length_set]
    by_cases e1 : k + 1 = i
    · subst e1
      rw [if_pos rfl, if_pos hk, if_neg (by omega), show k + 1 - min k l.length = 1 by omega]; rfl
    · rw [if_neg e1]
      by_cases e2 : k = i
      · subst e2
        rw [if_pos rfl, if_pos (by omega), if_neg (by omega), show k - min k l.length = 0 by omega]; rfl
      · rw [if_neg e2]
        by_cases e3 : i < k
        · rw [if_pos (by omega), List.getElem?_take, if_pos e3]
        · rw [if_neg (by omega), show i - min k l.length = (i - k - 2) + 2 by omega]
          simp only [List.getElem?_cons_succ]
          rw [List.getElem?_drop, show k + 2 + (i - k - 2) = i by omega]

theorem ren_set {ms : List Mv} {π : Int → Int} {k : Nat} {a : Mv} {M : List D} (hM : M = ((ms.take k).map (renMv π) ++ ms.drop k).map mvD) (h : ms[k]? = some a) {M' : List D} (hM' : M' = M.set k (mvD (renMv π a))) : M' = ((ms.take (k + 1)).map (renMv π) ++ ms.drop (k + 1)).map mvD := by
  have hk := (List.getElem?_eq_some_iff.1 h).1
  rw [hM', hM, drop_at h, List.map_append, List.map_cons, List.set_append_right _ _ (by simp; omega), List.take_add_one, h, Option.toList_some]
  simp only [List.length_map, List.length_take, List.map_append, List.map_cons, List.map_nil, List.append_assoc]
  rw [show k - min k ms.length = 0 by omega]; rfl
theorem ren_get {ms : List Mv} {π : Int → Int} {k : Nat} {a : Mv} {M : List D} (hM : M = ((ms.take k).map (renMv π) ++ ms.drop k).map mvD) (h : ms[k]? = some a) : M[k]? = some (mvD a) := by
  have hk := (List.getElem?_eq_some_iff.1 h).1
  rw [hM, List.getElem?_map, List.getElem?_append_right (by simp; omega), drop_at h]
  simp only [List.length_map, List.length_take]
  rw [show k - min k ms.length = 0 by omega]; rfl
theorem ren_len {ms : List Mv} {π : Int → Int} {k m : Nat} {M : List D} (hM : M = ((ms.take k).map (renMv π) ++ ms.drop k).map mvD) (h : ms.length = m) (hk : k ≤ m) : M.length = m := by rw [hM]; simp; omega
theorem ren_end {ms : List Mv} {π : Int → Int} {k m : Nat} {M : List D} (hM : M = ((ms.take k).map (renMv π) ++ ms.drop k).map mvD) (h : ms.length = m) (hk : k = m) : M = (ms.map (renMv π)).map mvD := by
  rw [hM, List.take_of_length_le (by omega), List.drop_eq_nil_of_le (by omega), List.append_nil]
theorem set_same {α : Type} {l : List α} {k : Nat} {x : α} (h : l[k]? = some x) : l.set k x = l := by
  obtain ⟨h1, rfl⟩ := List.getElem?_eq_some_iff.1 h
  exact List.set_getElem_self h1
theorem ren_same {π : Int → Int} {a : Mv} (h : ¬ (a.kind = 2 ∧ 0 ≤ a.inst)) : renMv π a = a := by unfold renMv; rw [if_neg h]

/-- Facts that cbv is not to take apart. -/
structure SwOk (π : Int → Int) (jx : Jn) (M : List D) (k : Nat) (a b : Mv) (M2 : List D) : Prop where
  out : a.bin ≠ b.bin → (a.kind ≠ 1 ∨ b.kind ≠ 1) → ∃ y : Jn, M2 = y.moves.map mvD ∧ RenJ π jx y

set_option maxRecDepth 40000 in
set_option maxHeartbeats 8000000 in
/-- BatchRenamed. -/
theorem wBatchRenamed (L : List D) (nums : List Int) (hL : L = nums.map I) (hl : L.length ≤ 9223372036854775807) (Q) (hq : Q (RA.ret (.v (.bool true))) []) : CallA Try.prog 4 [.sl 1 L] [] Q := by
  obtain ⟨A, hA⟩ : ∃ A, A = ar := ⟨_, rfl⟩
  have n00 : A.cmp .neq 0 0 = false := by subst hA; rfl
  have bT : A.bnot true = false := by subst hA; rfl
  refine callA_startF tokT hA [17] Try.func4 rfl rfl rfl rfl rfl fun S hS => ?_
  cbv
  refine ops_call hS [.sl 1 L] [] [] rfl rfl rfl rfl rfl rfl rfl rfl (by decide) trivial (newPotL L nums hL hl _ fun x0 => ?_)
  refine ops_go tokT hA hS ?_
  cbv
  refine ops_call hS [.b 0 0, I 9, I 1] [0] [pot x0] rfl rfl rfl rfl rfl rfl rfl rfl (by decide) ⟨rfl, trivial⟩ (kJournalOf x0 9 1 (by decide) ⟨by decide, by decide⟩ _ fun ins first ms lies truth x1 FL ML TL RL hi1 hi4 hfl hm10 hmm hg hF hM hT hR => ?_)
  obtain ⟨jx, N, n, m, hjx, hj⟩ := md_of hi1 hi4 hfl hm10 hg hF hM
  obtain ⟨NB, hNB⟩ : ∃ NB, NB = (binsOf jx.moves).length := ⟨_, rfl⟩
  have hRl : RL.length = NB := by rw [hR, hNB, hjx]; simp; have := hg.l.len; have := hg.b4; omega
  have hN := hj.nI
  have hN4 := hj.N4
  have hFl := hj.Fl
  have hMl := hj.Ml
  have hm := hj.m
  have hmle := hj.m10
  have hN1000 : N ≤ 1000 := by omega
  refine ops_go tokT hA hS ?_
  cbv
  refine ops_call hS [.b 0 0, I ins] [0] [pot x1] rfl rfl rfl rfl rfl rfl rfl rfl (by decide) ⟨rfl, trivial⟩ (mix x1 ins N hN hN1000 _ fun q QL x2 hper hQ => ?_)
  obtain ⟨π, hπ⟩ : ∃ π, π = permI q := ⟨_, rfl⟩
  have hp : RenOk jx.ins π := by rw [hj.ie, hπ]; exact permI_ok hper hN.eq
  have hQl : QL.length = N := by rw [hQ]; simp [natL, hper.length_eq]
  have hQg : ∀ k, k < N → ∃ p : Nat, π (k : Int) = p ∧ p < N ∧ QL[k]? = some (I (p : Nat)) := fun k hk => by
    have hql : q.length = N := by rw [hper.length_eq, List.length_range]
    obtain ⟨p, hpq⟩ : ∃ p, q[k]? = some p := ⟨_, List.getElem?_eq_getElem (by omega)⟩
    refine ⟨p, ?_, List.mem_range.1 (hper.mem_iff.1 (List.mem_of_getElem? hpq)), ?_⟩
    · rw [hπ]; unfold permI; rw [Int.toNat_natCast, List.getD_eq_getElem?_getD, hpq]; rfl
    · rw [hQ]; unfold natL; rw [List.getElem?_map, hpq]; rfl
  have hn1000 : n ≤ 1000 := by have := hj.n2; omega
  have hm1000 : m ≤ 1000 := by omega
  refine ops_go tokT hA hS ?_
  cbv
  refine ops_call hS [.agg [I ins, .sl 1 FL, .sl 5 ML]] [] [] rfl rfl rfl rfl rfl rfl rfl rfl (by decide) trivial (kCopyJournal ins FL ML n m hFl hMl hn1000 hm1000 _ ?_)
  refine ops_go tokT hA hS ?_
  cbv
  refine at_code hS ?_
  refine wpa_loopG (α := Int × Nat × List D) (fun s => { env := [(3, .b 0 0), (4, .cb (.agg [I ins, .sl 1 FL, .sl 5 ML]) 0), (6, .sl 1 RL), (7, .sl 1 QL), (8, .b 1 0), (9, I s.1)], H := [pot x2, .box (.agg [I ins, .o 2 1 n, .o 3 5 m]), .els 1 FL, .els 5 s.2.2], nt := 248, dfs := [] })
    (fun s => m - s.2.1) (fun s => s.2.1 ≤ m ∧ IsI s.1 s.2.1 ∧ s.2.2 = ((jx.moves.take s.2.1).map (renMv π) ++ jx.moves.drop s.2.1).map mvD) (0, 0, ML) ⟨Nat.zero_le _, ⟨rfl⟩, hj.M⟩ ?_ ?_
  · refine gs_frz hA [1] ?_
    cbv
    exact gs_to [0, 4, 2, 3] ⟨by decide, pre0, ⟨rfl, rfl, rfl, rfl, trivial⟩, ⟨rfl, rfl, rfl, rfl, rfl, rfl, trivial⟩, rfl, rfl⟩
  rintro ⟨i, k, M⟩ ⟨u1, u2, u3⟩
  dsimp only at u1 u2 u3
  have hMl1 := ren_len u3 hm u1
  have hyes : A.cmp .lss i (A.oi m) = true → k < m := fun c => by have := xlt hA c; rw [xoi hA] at this; have := u2.eq; omega
  have hno : A.cmp .lss i (A.oi m) = false → k = m := fun c => by have := xnlt hA c; rw [xoi hA] at this; have := u2.eq; omega
  refine wp_go tokT hA hS ?_
  cbv
  refine bm (fun c => ?_) (fun c => ?_)
  · have hk := hyes c
    obtain ⟨⟨kd, bn, it, lo, hi⟩, hm0⟩ : ∃ a : Mv, jx.moves[k]? = some a := ⟨_, List.getElem?_eq_getElem (by omega)⟩
    have hmo := hj.ok.mv _ (List.mem_of_getElem? hm0)
    have gM := yget hA u2 (ren_get u3 hm0)
    have hin : A.inb i m := yinb hA u2 hk
    have hf1 := yfit1 hA u2 (by omega)
    have hu2 := ysucc hA u2
    have hms : m - (k + 1) < m - k := by omega
    have hsame : ¬ (kd = 2 ∧ 0 ≤ it) → M = ((jx.moves.take (k + 1)).map (renMv π) ++ jx.moves.drop (k + 1)).map mvD := fun h => ren_set u3 hm0 (by
      rw [ren_same h]
      exact (set_same (ren_get u3 hm0)).symm)
    have hpos : A.cmp .eql kd 2 = true → A.cmp .geq it 0 = true → ∃ tn p, IsI it tn ∧ tn < N ∧ QL[tn]? = some (I p) ∧ ∀ M', M' = M.set k (.agg [I kd, I bn, I p, I lo, I hi]) → M' = ((jx.moves.take (k + 1)).map (renMv π) ++ jx.moves.drop (k + 1)).map mvD := fun h1 h2 => by
      have e1 : kd = 2 := xeq hA h1
      have e2 : 0 ≤ it := xge hA h2
      have e3 : it < jx.ins := hmo.i1 e1
      have e4 := hj.ie; have e5 := hN.eq
      obtain ⟨p, p1, p2, p3⟩ := hQg it.toNat (by omega)
      refine ⟨it.toNat, p, ⟨by omega⟩, by omega, p3, fun M' hM' => ren_set u3 hm0 ?_⟩
      rw [hM']
      unfold renMv
      rw [if_pos ⟨e1, e2⟩]
      have e6 : ((it.toNat : Nat) : Int) = it := by omega
      have p7 : π it = (p : Nat) := (congrArg π e6).symm.trans p1
      show _ = M.set k (.agg [I kd, I bn, I (π it), I lo, I hi])
      rw [p7]
    have hneg1 : A.cmp .eql kd 2 = false → ¬ (kd = 2 ∧ 0 ≤ it) := fun h g => xneq hA h g.1
    have hneg2 : A.cmp .geq it 0 = false → ¬ (kd = 2 ∧ 0 ≤ it) := fun h g => by have := xnge hA h; omega
    cbv
    refine ⟨hin, ?_⟩
    refine ⟨_, gM, ?_⟩
    cbv
    refine bm (fun c1 => ?_) (fun c1 => ?_)
    · cbv
      refine ⟨_, gM, ?_⟩
      cbv
      refine bm (fun c2 => ?_) (fun c2 => ?_)
      · obtain ⟨tn, p, t1, t2, t3, t4⟩ := hpos c1 c2
        have hinQ := yinbL hA hQl t1 t2
        have gQ := yget hA t1 t3
        have hM' := t4 (A.set M (A.tn i) (.agg [I kd, I bn, I p, I lo, I hi])) (yset hA u2 rfl)
        cbv
        refine ⟨_, gM, ?_⟩
        cbv
        refine ⟨hinQ, ⟨_, gQ, ?_⟩⟩
        cbv
        refine ⟨_, gM, ?_⟩
        cbv
        refine ⟨hf1, ?_⟩
        refine gs_loop (A.add i 1, k + 1, A.set M (A.tn i) (.agg [I kd, I bn, I p, I lo, I hi])) [0, 1, 2, 3] ⟨hk, hu2, hM'⟩ hms ?_
        exact ⟨by decide, pre0, ⟨rfl, rfl, rfl, rfl, trivial⟩, ⟨rfl, rfl, rfl, rfl, rfl, rfl, trivial⟩, rfl, rfl⟩
      · have hz := hsame (hneg2 c2)
        cbv
        refine ⟨hf1, ?_⟩
        refine gs_loop (A.add i 1, k + 1, M) [0, 1, 2, 3] ⟨hk, hu2, hz⟩ hms ?_
        exact ⟨by decide, pre0, ⟨rfl, rfl, rfl, rfl, trivial⟩, ⟨rfl, rfl, rfl, rfl, rfl, rfl, trivial⟩, rfl, rfl⟩
    · have hz := hsame (hneg1 c1)
      cbv
      refine ⟨hf1, ?_⟩
      refine gs_loop (A.add i 1, k + 1, M) [0, 1, 2, 3] ⟨hk, hu2, hz⟩ hms ?_
      exact ⟨by decide, pre0, ⟨rfl, rfl, rfl, rfl, trivial⟩, ⟨rfl, rfl, rfl, rfl, rfl, rfl, trivial⟩, rfl, rfl⟩
  have hk := hno c
  have hM1 := ren_end u3 hm hk
  obtain ⟨jx1, hjx1⟩ : ∃ y : Jn, y = { jx with moves := jx.moves.map (renMv π) } := ⟨_, rfl⟩
  have hr1 : RenJ π jx jx1 := by rw [hjx1]; exact renJ_map hp hj.ok
  have hM1x : M = jx1.moves.map mvD := by rw [hjx1]; exact hM1
  have hgt : A.cmp .gtr (A.oi m) 1 = true → 2 ≤ m := fun h => by have := xgt hA h; rw [xoi hA] at this; omega
  have hfs : A.cmp .gtr (A.oi m) 1 = true → A.fits .i64 (A.sub (A.oi m) 2) := fun h => xfitE hA (by rw [xsub hA, xoi hA]) (by have := hgt h; omega)
  have hfse : A.sub (A.oi m) 2 = (m : Int) - 2 := by rw [xsub hA, xoi hA]
  have hfle : A.sub (A.oi m) 2 ≤ 1000000000000 := by rw [hfse]; omega
  have hkmF : ∀ kI : Int, 0 ≤ kI → (kI ≤ A.sub (A.oi m) 2 ∨ kI = 0) → A.cmp .gtr (A.oi m) 1 = true → ∃ kk : Nat, IsI kI kk ∧ kk + 1 < m := fun kI h1 h2 h3 => by
    rw [hfse] at h2
    have h4 := hgt h3
    exact ⟨kI.toNat, ⟨by omega⟩, by omega⟩
  clear hM1
  have hM1 := hM1x
  clear hM1x
  cbv
  refine gs_done ?_
  cbv
  refine' bm2 (S := S) (α := List D × Jn) (fun s => { env := [(4, .cb (.agg [I ins, .sl 1 FL, .sl 5 ML]) 0), (6, .sl 1 RL), (7, .sl 1 QL), (8, .cb (.agg [I ins, .sl 1 FL, .sl 5 s.1]) 0)], H := [], nt := 248, dfs := [] }) (fun s => s.1 = s.2.moves.map mvD ∧ RenJ π jx s.2 ∧ s.1.length = m) (fun rest c => ?h1) (fun rest c => ?h2) ?h3
  case h1 =>
    have h2 := hgt c
    have hfs1 := hfs c
    cbv
    refine ⟨hfs1, ?_⟩
    refine ops_call hS [.b 0 0, I (A.sub (A.oi m) 2)] [0] [pot x2] rfl rfl rfl rfl rfl rfl rfl rfl (by decide) ⟨rfl, trivial⟩ (upto x2 _ hfle _ fun kI x3 hk1 hk2 => ?_)
    obtain ⟨kk, hkk, hkm⟩ := hkmF kI hk1 hk2 c
    have hk1I := ysucc hA hkk
    have hf1 := yfit1 hA hkk (by omega)
    have hjl : jx1.moves.length = m := by rw [hjx1]; simp [hm]
    obtain ⟨a, ha⟩ : ∃ a : Mv, jx1.moves[kk]? = some a := ⟨_, List.getElem?_eq_getElem (by omega)⟩
    obtain ⟨b, hb⟩ : ∃ b : Mv, jx1.moves[kk + 1]? = some b := ⟨_, List.getElem?_eq_getElem (by omega)⟩
    have hsw0 : SwOk π jx M kk a b (A.set (A.set M (A.tn kI) (mvD b)) (A.tn (A.add kI 1)) (mvD a)) := ⟨fun hbn hkd => by
      obtain ⟨p, r, e1, e2⟩ := swap_set ha hb
      refine ⟨_, ?_, renJ_swap hr1 e1 hbn hkd⟩
      show _ = (p ++ b :: a :: r).map mvD
      rw [← e2, List.map_set, List.map_set, ← hM1, yset hA hkk rfl, yset hA hk1I rfl]⟩
    have gM0 : A.get M (A.tn kI) = some (mvD a) := yget hA hkk (by rw [hM1, List.getElem?_map, ha]; rfl)
    have gM1 : A.get M (A.tn (A.add kI 1)) = some (mvD b) := yget hA hk1I (by rw [hM1, List.getElem?_map, hb]; rfl)
    have gM1' : A.get (A.set M (A.tn kI) (mvD b)) (A.tn (A.add kI 1)) = some (mvD b) := yget hA hk1I (by rw [yset hA hkk rfl, List.getElem?_set, if_neg (by omega), hM1, List.getElem?_map, hb]; rfl)
    have hin0 : A.inb kI m := yinb hA hkk (by omega)
    have hin1 : A.inb (A.add kI 1) m := yinb hA hk1I hkm
    have hSl : (A.set (A.set M (A.tn kI) (mvD b)) (A.tn (A.add kI 1)) (mvD a)).length = m := by rw [yset hA hk1I rfl, List.length_set, yset hA hkk rfl, List.length_set, hMl1]
    obtain ⟨ka, ba, ia, la, ya⟩ := a
    obtain ⟨kb, bb, ib, lb, yb⟩ := b
    have hsw : ∀ (h : ba ≠ bb ∧ (ka ≠ 1 ∨ kb ≠ 1)), ∃ y : Jn, A.set (A.set M (A.tn kI) (.agg [I kb, I bb, I ib, I lb, I yb])) (A.tn (A.add kI 1)) (.agg [I ka, I ba, I ia, I la, I ya]) = y.moves.map mvD ∧ RenJ π jx y := fun h => hsw0.out h.1 h.2
    have cBin : A.cmp .neq ba bb = true → ba ≠ bb := fun h => xne hA h
    have cKa : A.cmp .neq ka 1 = true → ka ≠ 1 := fun h => xne hA h
    have cKb : A.cmp .neq kb 1 = true → kb ≠ 1 := fun h => xne hA h
    refine ops_go tokT hA hS ?_
    cbv
    refine draw_go tokT hA hS [0, 1, 2, 3, 4, 5, 6, 7, 8, 9, 10, 11, 12, 13, 14] rfl rfl fun Dk hD => ?_
    cbv
    refine ⟨hin0, ⟨_, gM0, ?_⟩⟩
    cbv
    refine ⟨hf1, hin1, ⟨_, gM1, ?_⟩⟩
    cbv
    refine ⟨⟨⟨_, gM1, rfl⟩, trivial⟩, ?_⟩
    refine bm (fun c1 => ?_) (fun c1 => ?_)
    · cbv
      refine bm (fun c2 => ?_) (fun c2 => ?_)
      · obtain ⟨y, hy⟩ := hsw ⟨cBin c1, .inl (cKa c2)⟩
        cbv
        refine draw_go tokT hA hS [0, 1, 2, 3, 4, 5, 6, 7, 8, 9, 11, 10, 12] rfl rfl fun Dk hD => ?_
        cbv
        refine ⟨hf1, hin0, hin1, ⟨_, gM0, ?_⟩⟩
        cbv
        refine ⟨_, gM1', ?_⟩
        cbv
        refine join_at hS rest (_, y) ⟨hy.1, hy.2, hSl⟩ ?_
        refine gs_frz hA [2, 3] ?_
        cbv
        repeat (refine ⟨by first | exact yeqLen hA hFl | exact yeqLen hA hSl, ?_⟩)
        refine gs_frz hA [1] ?_
        cbv
        exact gs_to [] ⟨by decide, pre0, trivial, ⟨rfl, rfl, rfl, rfl, trivial⟩, rfl, rfl⟩
      · cbv
        refine bm (fun c3 => ?_) (fun c3 => ?_)
        · obtain ⟨y, hy⟩ := hsw ⟨cBin c1, .inr (cKb c3)⟩
          cbv
          refine draw_go tokT hA hS [0, 1, 2, 3, 4, 5, 6, 7, 8, 9, 11, 10, 12] rfl rfl fun Dk hD => ?_
          cbv
          refine ⟨hf1, hin0, hin1, ⟨_, gM0, ?_⟩⟩
          cbv
          refine ⟨_, gM1', ?_⟩
          cbv
          refine join_at hS rest (_, y) ⟨hy.1, hy.2, hSl⟩ ?_
          refine gs_frz hA [2, 3] ?_
          cbv
          repeat (refine ⟨by first | exact yeqLen hA hFl | exact yeqLen hA hSl, ?_⟩)
          refine gs_frz hA [1] ?_
          cbv
          exact gs_to [] ⟨by decide, pre0, trivial, ⟨rfl, rfl, rfl, rfl, trivial⟩, rfl, rfl⟩
        · cbv
          refine join_at hS rest (M, jx1) ⟨hM1, hr1, hMl1⟩ ?_
          refine gs_frz hA [2, 3] ?_
          cbv
          repeat (refine ⟨by first | exact yeqLen hA hFl | exact yeqLen hA hMl1, ?_⟩)
          refine gs_frz hA [1] ?_
          cbv
          exact gs_to [] ⟨by decide, pre0, trivial, ⟨rfl, rfl, rfl, rfl, trivial⟩, rfl, rfl⟩
    · cbv
      refine join_at hS rest (M, jx1) ⟨hM1, hr1, hMl1⟩ ?_
      refine gs_frz hA [2, 3] ?_
      cbv
      repeat (refine ⟨by first | exact yeqLen hA hFl | exact yeqLen hA hMl1, ?_⟩)
      refine gs_frz hA [1] ?_
      cbv
      exact gs_to [] ⟨by decide, pre0, trivial, ⟨rfl, rfl, rfl, rfl, trivial⟩, rfl, rfl⟩
  case h2 =>
    cbv
    refine join_at hS rest (M, jx1) ⟨hM1, hr1, hMl1⟩ ?_
    refine gs_frz hA [2, 3] ?_
    cbv
    repeat (refine ⟨by first | exact yeqLen hA hFl | exact yeqLen hA hMl1, ?_⟩)
    refine gs_frz hA [1] ?_
    cbv
    exact gs_to [] ⟨by decide, pre0, trivial, ⟨rfl, rfl, rfl, rfl, trivial⟩, rfl, rfl⟩
  rintro ⟨M2, jy⟩ ⟨hMy, hry, hM2l⟩
  dsimp only at hMy hry hM2l
  have hjy : MdJ jy ins N n m FL M2 := ⟨hry.ok, hry.stands hj.st, hry.ins.trans hj.ie, hN, by rw [hry.first]; exact hj.F, hMy, by rw [hry.first]; exact hj.n, by rw [← hM2l, hMy, List.length_map]⟩
  have hrr := hry.rest
  refine at_code hS ?_
  refine wp_go tokT hA hS ?_
  cbv
  refine ops_call hS [.agg [I ins, .sl 1 FL, .sl 5 ML]] [] [] rfl rfl rfl rfl rfl rfl rfl rfl (by decide) trivial (hj.holds _ fun HX hHX => ?_)
  have hHXl : HX.length = N := by rw [hHX]; simp [holdsJ, hj.ie]; have := hN.eq; omega
  refine ops_go tokT hA hS ?_
  cbv
  refine ops_call hS [.agg [I ins, .sl 1 FL, .sl 5 M2]] [] [] rfl rfl rfl rfl rfl rfl rfl rfl (by decide) trivial (hjy.holds _ fun HY hHY => ?_)
  have hHYl : HY.length = N := by rw [hHY]; simp [holdsJ, hjy.ie]; have := hN.eq; omega
  refine ops_go tokT hA hS ?_
  cbv
  refine ops_call hS [.agg [I ins, .sl 1 FL, .sl 5 ML]] [] [] rfl rfl rfl rfl rfl rfl rfl rfl (by decide) trivial (hj.rest _ fun RX hRX => ?_)
  have hRXl : RX.length = NB := by rw [hRX]; simp [restJ, hNB]
  refine ops_go tokT hA hS ?_
  cbv
  refine ops_call hS [.agg [I ins, .sl 1 FL, .sl 5 M2]] [] [] rfl rfl rfl rfl rfl rfl rfl rfl (by decide) trivial (hjy.rest _ fun RY hRY => ?_)
  refine ops_go tokT hA hS ?_
  cbv
  refine ops_call hS [.agg [I ins, .sl 1 FL, .sl 5 ML]] [] [] rfl rfl rfl rfl rfl rfl rfl rfl (by decide) trivial (hj.mixed _ fun VX hVX => ?_)
  have hVXl : VX.length = N := by rw [hVX]; simp [mixedJ, hj.ie]; have := hN.eq; omega
  refine ops_go tokT hA hS ?_
  cbv
  refine ops_call hS [.agg [I ins, .sl 1 FL, .sl 5 M2]] [] [] rfl rfl rfl rfl rfl rfl rfl rfl (by decide) trivial (hjy.mixed _ fun VY hVY => ?_)
  have hVYl : VY.length = N := by rw [hVY]; simp [mixedJ, hjy.ie]; have := hN.eq; omega
  have hne0 : A.cmp .neq (A.oi N) ins = false := by subst hA; have := hN.eq; simp [ar, cmpI]; omega
  have l1 : A.cmp .neq (A.oi (A.len HX)) ins = false := by rw [xlen hA hHXl]; exact hne0
  have l2 : A.cmp .neq (A.oi (A.len HY)) ins = false := by rw [xlen hA hHYl]; exact hne0
  have l3 : A.cmp .neq (A.oi (A.len VX)) ins = false := by rw [xlen hA hVXl]; exact hne0
  have l4 : A.cmp .neq (A.oi (A.len VY)) ins = false := by rw [xlen hA hVYl]; exact hne0
  have l5 : A.cmp .neq (A.oi (A.len RX)) (A.oi (A.len RL)) = false := by rw [xlen hA hRXl, xlen hA hRl]; subst hA; simp [ar, cmpI]
  have hSR := fun Q => kSameRanges (restJ jx) (restJ jy) RX RY hRX hRY (by simp [restJ]; have := hj.ok.b4; omega) true (by rw [hrr]; simp) Q
  refine ops_go tokT hA hS ?_
  cbv
  refine bmF n00 ?_
  cbv
  refine bmF n00 ?_
  cbv
  refine bmF n00 ?_
  cbv
  refine bmF n00 ?_
  cbv
  refine bmF n00 ?_
  cbv
  refine bmF n00 ?_
  cbv
  refine bmF l1 ?_
  cbv
  refine bmF l2 ?_
  cbv
  refine bmF l3 ?_
  cbv
  refine bmF l4 ?_
  cbv
  refine bmF l5 ?_
  cbv
  refine ops_callG hS (b := false) rfl rfl rfl rfl rfl rfl rfl rfl (fun _ => ⟨[], _, [.sl 2 RX, .sl 2 RY], [], [], rfl, rfl, rfl, by decide, trivial, hSR _ ?_⟩) (fun h => absurd rfl h)
  refine ops_go tokT hA hS ?_
  cbv
  refine bmF bT ?_
  cbv
  refine at_code hS ?_
  refine wpa_loopG (α := Int × Nat) (fun s => { env := [(4, .cb (.agg [I ins, .sl 1 FL, .sl 5 ML]) 0), (7, .sl 1 QL), (15, .sl 1 HX), (17, .sl 1 HY), (23, .sl 1 VX), (25, .sl 1 VY), (27, I s.1)], H := [], nt := 248, dfs := [] })
    (fun s => N - s.2) (fun s => s.2 ≤ N ∧ IsI s.1 s.2) (0, 0) ⟨Nat.zero_le _, ⟨rfl⟩⟩ ?_ ?_
  · exact gs_to [] ⟨by decide, pre0, trivial, ⟨rfl, rfl, rfl, rfl, rfl, rfl, rfl, trivial⟩, rfl, rfl⟩
  rintro ⟨i, t⟩ ⟨v1, v2⟩
  dsimp only at v1 v2
  have hyes2 : A.cmp .lss i ins = true → t < N := fun c => by have := xlt hA c; have := hN.eq; have := v2.eq; omega
  refine wp_go tokT hA hS ?_
  cbv
  refine bm (fun c2 => ?_) (fun c2 => ?_)
  · have ht := hyes2 c2
    obtain ⟨p, p1, p2, p3⟩ := hQg t ht
    obtain ⟨r, r1, r2, r3⟩ := hry.holds hp (hj.ie.trans hN.eq) ht p1
    obtain ⟨v, w1, w2⟩ := hry.mixed hp (hj.ie.trans hN.eq) ht p1
    obtain ⟨pI, hpI⟩ : ∃ pI : Int, pI = (p : Nat) := ⟨_, rfl⟩
    have hpII : IsI pI p := ⟨hpI⟩
    have p4 : QL[t]? = some (I pI) := by rw [hpI]; exact p3
    have gQ := yget hA v2 p4
    have gX : A.get HX (A.tn i) = some (.sl 1 (r.map I)) := yget hA v2 (by rw [hHX, List.getElem?_map, r1]; rfl)
    have gY : A.get HY (A.tn pI) = some (.sl 1 (r.map I)) := yget hA hpII (by rw [hHY, List.getElem?_map, r2]; rfl)
    have gV : A.get VX (A.tn i) = some (I v) := yget hA v2 (by rw [hVX, List.getElem?_map, w1]; rfl)
    have gW : A.get VY (A.tn pI) = some (I v) := yget hA hpII (by rw [hVY, List.getElem?_map, w2]; rfl)
    have iX := yinbL hA hHXl v2 ht
    have iQ := yinbL hA hQl v2 ht
    have iY := yinbL hA hHYl hpII p2
    have iV := yinbL hA hVXl v2 ht
    have iW := yinbL hA hVYl hpII p2
    have hfa := yfit1 hA v2 (by omega)
    have hv2 := ysucc hA v2
    have hms2 : N - (t + 1) < N - t := by omega
    have hvv : A.cmp .neq v v = false := by subst hA; simp [ar, cmpI]
    obtain ⟨R, hR⟩ : ∃ R, R = r.map I := ⟨_, rfl⟩
    rw [← hR] at gX gY
    have hSI := fun Q => kSameInts r r R R hR hR (by have := hj.ok.b4; omega) true (by simp) Q
    cbv
    refine draw_go tokT hA hS [0, 1, 2, 3, 4, 5, 6, 7, 8, 9, 10, 11, 12, 13, 14, 15, 16, 17, 18, 19, 20, 21, 22, 23, 24, 25, 26] rfl rfl fun Dk hD => ?_
    cbv
    refine ⟨iX, ⟨_, gX, ?_⟩⟩
    cbv
    refine ⟨iQ, ⟨_, gQ, ?_⟩⟩
    cbv
    refine ⟨iY, ⟨_, gY, ?_⟩⟩
    cbv
    refine draw_call hA hD [.sl 1 R, .sl 1 R] [] [] rfl rfl rfl rfl rfl rfl rfl rfl rfl rfl rfl (by decide) trivial (hSI _ ⟨by cbv; repeat' (first | exact trivial | exact rfl | exact ⟨_, gX, rfl⟩ | exact ⟨_, gQ, rfl⟩ | exact ⟨_, gY, rfl⟩ | exact iX | exact iQ | exact iY | refine ⟨?_, ?_⟩), draw_on tokT hA hD ?_⟩)
    cbv
    refine bmF bT ?_
    cbv
    refine ⟨iV, ⟨_, gV, ?_⟩⟩
    cbv
    refine ⟨iQ, ⟨_, gQ, ?_⟩⟩
    cbv
    refine ⟨iW, ⟨_, gW, ?_⟩⟩
    cbv
    refine bmF hvv ?_
    cbv
    refine ⟨hfa, ?_⟩
    refine gs_loop (A.add i 1, t + 1) [] ⟨ht, hv2⟩ hms2 ?_
    exact ⟨by decide, pre0, trivial, ⟨rfl, rfl, rfl, rfl, rfl, rfl, rfl, trivial⟩, rfl, rfl⟩
  · cbv
    refine gs_done ?_
    cbv
    refine ops_call hS [] [] [] rfl rfl rfl rfl rfl rfl rfl rfl (by decide) trivial (lStored _ ?_)
    refine ops_go tokT hA hS ?_
    cbv
    exact gh_view [] (by decide) pre0 (H' := []) (d' := .v (.bool true)) trivial rfl (gh_done hq)
end Go.Proofs.Ytecfpfhkicapeaa

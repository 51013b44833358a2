/- Part SaysA of the proofs about the benches of the accordion maker: see the last text of the claim for what is proved. -/
import Derived.Test.YtecfpfhkicapeaaMachD
set_option linter.unusedVariables false
set_option linter.unusedSimpArgs false
set_option linter.unnecessarySimpa false
set_option linter.constructorNameAsVariable false

namespace Go.Batch
structure Mv where
  kind : Int
  bin : Int
  inst : Int
  lo : Int
  hi : Int
deriving DecidableEq
structure Jn where
  ins : Int
  first : List Bool
  moves : List Mv
def upR (lo hi : Int) : List Int := (List.range (hi + 1 - lo).toNat).map fun k : Nat => lo + k
def downR (hi lo : Int) : List Int := (List.range (hi + 1 - lo).toNat).map fun k : Nat => hi - k
theorem mem_upR {lo hi x : Int} : x ∈ upR lo hi ↔ lo ≤ x ∧ x ≤ hi := by
  simp only [upR, List.mem_map, List.mem_range]
  constructor
  · rintro ⟨k, h1, rfl⟩; omega
  · rintro ⟨h1, h2⟩; exact ⟨(x - lo).toNat, by omega, by omega⟩
theorem mem_downR {lo hi x : Int} : x ∈ downR hi lo ↔ lo ≤ x ∧ x ≤ hi := by
  simp only [downR, List.mem_map, List.mem_range]
  constructor
  · rintro ⟨k, h1, rfl⟩; omega
  · rintro ⟨h1, h2⟩; exact ⟨(hi - x).toNat, by omega, by omega⟩
section
variable {ν : Type}
abbrev Tk (ν : Type) := ν → Int → Nat → Int → ν
abbrev Ste (ν : Type) := List Int × ν
def takeS (tk : Tk ν) (inst : Int) (s : Ste ν) (i : Nat) (n : Int) : Ste ν := if n = 0 then s else (s.1.set i (s.1.getD i 0 - n), tk s.2 inst i n)
def drawL (fifo : Bool) (tk : Tk ν) (bin inst : Int) : List Int → Nat → Ste ν → Int → List (Ste ν)
  | [], _, s, a => if a = 0 then [s] else []
  | b :: bs, i, s, a => if a = 0 then [s] else
    if b = bin ∧ s.1.getD i 0 ≠ 0 then
      (downR (min a (s.1.getD i 0)) (if fifo then min a (s.1.getD i 0) else 0)).flatMap fun n => drawL fifo tk bin inst bs (i + 1) (takeS tk inst s i n) (a - n)
    else drawL fifo tk bin inst bs (i + 1) s a
def binsOf (ms : List Mv) : List Int := (ms.filter fun m => decide (m.kind = 1)).map (·.bin)
def inL (bin : Int) : List Int → List Int → Int
  | b :: bs, l => (if b = bin then l.headD 0 else 0) + inL bin bs l.tail
  | [], _ => 0
def instR (ins : Int) (m : Mv) : List Int := if m.inst < 0 then upR 0 (ins - 1) else [m.inst]
def stepS (j : Jn) (tk : Tk ν) (bins : List Int) (m : Mv) (b : Nat) (s : Ste ν) : List (Ste ν) :=
  if m.kind = 1 then (upR m.lo m.hi).map fun n => (s.1.set b n, s.2)
  else if m.kind = 2 then (instR j.ins m).flatMap fun i => (upR m.lo m.hi).flatMap fun n => drawL (j.first.getD m.bin.toNat false) tk m.bin i bins 0 s n
  else if m.lo ≤ inL m.bin bins s.1 ∧ inL m.bin bins s.1 ≤ m.hi then [s] else []
def endsF (j : Jn) (tk : Tk ν) (bins : List Int) : List Mv → Nat → List (Ste ν) → List (Ste ν)
  | [], _, now => now
  | m :: ms, b, now => endsF j tk bins ms (if m.kind = 1 then b + 1 else b) (now.flatMap (stepS j tk bins m b))
def endsS (j : Jn) (tk : Tk ν) (z : ν) : List (Ste ν) := endsF j tk (binsOf j.moves) j.moves 0 [([0, 0, 0, 0], z)]
end
def tkNone : Tk Int := fun _ _ _ _ => 0
def tkAmt (i : Int) (b : Nat) : Tk Int := fun x i' b' n => if i' = i ∧ b' = b then x + n else x
def tkAll : Tk (List (Int × Nat × Int)) := fun x i b n => x ++ [(i, b, n)]
def withB (x : Int) (n : Nat) : Int := ((x.toNat ||| (1 <<< n) : Nat) : Int)
def hasB (g : Int) (n : Nat) : Bool := (g.toNat >>> n) % 2 == 1
def tkHas (g : Int) (i : Int) : Tk Int := fun x i' b _ => if i' = i ∧ hasB g b = true then 1 else x
def tkMix (i : Int) : Tk Int := fun x i' b _ => if i' = i then withB x b else x
def tkSus (b : Nat) : Tk Int := fun x i' b' _ => if b' = b then withB x i'.toNat else x
def leastI : List Int → Int
  | [] => 0
  | x :: l => l.foldl min x
def mostI : List Int → Int
  | [] => 0
  | x :: l => l.foldl max x
def rangeI (l : List Int) : Int × Int := (leastI l, mostI l)
def verdI (x : Int × Int) : Int := if 0 < x.1 then 1 else if x.2 = 0 then 2 else 3
def checkMv (j : Jn) (m : Mv) : Int :=
  if ¬ (1 ≤ m.kind ∧ m.kind ≤ 3) then 8
  else if ¬ (0 ≤ m.bin ∧ m.bin ≤ (j.first.length : Int) - 1) then 3
  else if m.kind = 2 ∧ ¬ (-1 ≤ m.inst ∧ m.inst ≤ j.ins - 1) then 3
  else if m.kind ≠ 2 ∧ m.inst ≠ 0 then 1
  else if ¬ (0 ≤ m.lo ∧ m.lo ≤ 5) ∨ ¬ (0 ≤ m.hi ∧ m.hi ≤ 5) then 1
  else if m.hi < m.lo then 5
  else 0
def checkMs (j : Jn) : List Mv → Nat → Int
  | [], _ => 0
  | m :: ms, k => if checkMv j m ≠ 0 then checkMv j m else if 4 < (if m.kind = 1 then k + 1 else k) then 6 else checkMs j ms (if m.kind = 1 then k + 1 else k)
def checkJ (j : Jn) : Int :=
  if ¬ (1 ≤ j.ins ∧ j.ins ≤ 4) then 1
  else if j.first.length = 0 then 7
  else if 2 < j.first.length ∨ 10 < j.moves.length then 6
  else checkMs j j.moves 0
def standsJ (j : Jn) : Bool := !(endsS j tkNone 0).isEmpty
def leftJ (j : Jn) : List (Int × Int) := (List.range j.first.length).map fun n : Nat => rangeI ((endsS j tkNone 0).map fun s => inL n (binsOf j.moves) s.1)
def restJ (j : Jn) : List (Int × Int) := (List.range (binsOf j.moves).length).map fun i => rangeI ((endsS j tkNone 0).map fun s => s.1.getD i 0)
def noteR (j : Jn) (tk : Tk Int) : Int × Int := rangeI ((endsS j tk 0).map (·.2))
def holdsJ (j : Jn) : List (List Int) := (List.range j.ins.toNat).map fun i : Nat => (List.range (binsOf j.moves).length).map fun b => verdI (noteR j (tkAmt i b))
def groupOf (l : List Nat) : Int := l.foldl withB 0
def hasJ (j : Jn) (l : List Nat) : List Int := (List.range j.ins.toNat).map fun i : Nat => verdI (noteR j (tkHas (groupOf l) i))
def andI (x y : Int) : Int := ((x.toNat &&& y.toNat : Nat) : Int)
def moreB (x : Int) : Int := if x ≤ 0 then 0 else ((x.toNat &&& (x.toNat - 1) : Nat) : Int)
def mixedJ (j : Jn) : List Int := (List.range j.ins.toNat).map fun i : Nat => verdI (rangeI ((endsS j (tkMix i) 0).map fun s => moreB s.2))
def allB (g other : Int) : Bool := andI g other == other
def suspB (j : Jn) (x y : Int) (b : Nat) : Bool := (endsS j (tkSus b) 0).any fun s => allB s.2 x && andI s.2 y == 0
def suspJ (j : Jn) (x y : Int) : List Int := ((List.range (binsOf j.moves).length).filter (suspB j x y)).map fun b : Nat => (b : Int)
def withoutL (l : List Nat) : List Mv → Nat → List Mv
  | [], _ => []
  | m :: ms, i => if i ∈ l then withoutL l ms (i + 1) else m :: withoutL l ms (i + 1)
def withoutJ (j : Jn) (l : List Nat) : Jn := { j with moves := withoutL l j.moves 0 }
def countsL : List Mv → Nat → List Nat
  | [], _ => []
  | m :: ms, i => if m.kind = 3 then i :: countsL ms (i + 1) else countsL ms (i + 1)
def countsJ (j : Jn) : List Nat := countsL j.moves 0
def choicesL {α : Type} : List α → Nat → List (List α)
  | _, 0 => [[]]
  | [], _ + 1 => []
  | x :: l, k + 1 => (choicesL l k).map (x :: ·) ++ choicesL l (k + 1)
def wrongTry (j : Jn) : List (List Nat) := (List.range ((countsJ j).length + 1)).flatMap (choicesL (countsJ j))
def wrongJ (j : Jn) : Option (List Nat) := (wrongTry j).find? fun l => standsJ (withoutJ j l)
def mIn (b lo hi : Int) : Mv := ⟨1, b, 0, lo, hi⟩
def mOut (b i lo hi : Int) : Mv := ⟨2, b, i, lo, hi⟩
def mCnt (b lo hi : Int) : Mv := ⟨3, b, 0, lo, hi⟩
def jnF (l : List Mv) : Jn := ⟨3, [true, false], [mIn 0 2 3, mIn 0 2 2, mOut 0 0 1 1, mOut 0 1 2 2, mOut 0 2 1 1] ++ l⟩
def jnA : Jn := ⟨3, [true, false], [mIn 1 2 2, mIn 1 1 1, mOut 1 0 1 1, mOut 1 (-1) 1 1]⟩
end Go.Batch

namespace Go.Batch
structure MOk (j : Jn) (m : Mv) : Prop where
  k1 : 1 ≤ m.kind
  k3 : m.kind ≤ 3
  b0 : 0 ≤ m.bin
  b1 : m.bin < j.first.length
  i0 : m.kind = 2 → -1 ≤ m.inst
  i1 : m.kind = 2 → m.inst < j.ins
  i2 : m.kind ≠ 2 → m.inst = 0
  l0 : 0 ≤ m.lo
  lh : m.lo ≤ m.hi
  h5 : m.hi ≤ 5
structure JOk (j : Jn) : Prop where
  i1 : 1 ≤ j.ins
  i4 : j.ins ≤ 4
  f1 : 1 ≤ j.first.length
  f2 : j.first.length ≤ 2
  m10 : j.moves.length ≤ 10
  mv : ∀ m ∈ j.moves, MOk j m
  b4 : (binsOf j.moves).length ≤ 4
theorem checkMv_ok {j : Jn} {m : Mv} (h : checkMv j m = 0) : MOk j m := by
  unfold checkMv at h
  split at h
  · simp at h
  split at h
  · simp at h
  split at h
  · simp at h
  split at h
  · simp at h
  split at h
  · simp at h
  split at h
  · simp at h
  rename_i a b c d e f
  exact ⟨by omega, by omega, by omega, by omega, fun hk => by omega, fun hk => by omega, fun hk => by omega, by omega, by omega, by omega⟩
theorem checkMv_of {j : Jn} {m : Mv} (h : MOk j m) : checkMv j m = 0 := by
  unfold checkMv
  have h1 := h.k1; have h2 := h.k3; have h3 := h.b0; have h4 := h.b1; have h5 := h.i0; have h6 := h.i1; have h7 := h.i2; have h8 := h.l0; have h9 := h.lh; have h10 := h.h5
  rw [if_neg (by omega), if_neg (by omega), if_neg (by omega), if_neg (by omega), if_neg (by omega), if_neg (by omega)]
theorem binsOf_cons (m : Mv) (ms : List Mv) : binsOf (m :: ms) = if m.kind = 1 then m.bin :: binsOf ms else binsOf ms := by
  unfold binsOf
  rw [List.filter_cons]
  by_cases h : m.kind = 1 <;> simp [h]
theorem checkMs_ok {j : Jn} : ∀ {ms : List Mv} {k : Nat}, checkMs j ms k = 0 → (∀ m ∈ ms, MOk j m) ∧ (k ≤ 4 → k + (binsOf ms).length ≤ 4)
  | [], k, _ => ⟨fun m hm => by simp at hm, fun hk => by simpa [binsOf] using hk⟩
  | m :: ms, k, h => by
    unfold checkMs at h
    by_cases h1 : checkMv j m = 0
    · rw [if_neg (by rw [h1]; simp)] at h
      rw [binsOf_cons]
      have mem : (∀ x ∈ ms, MOk j x) → ∀ x ∈ m :: ms, MOk j x := fun g x hx => by
        rcases List.mem_cons.1 hx with rfl | hx
        · exact checkMv_ok h1
        · exact g x hx
      by_cases hk : m.kind = 1
      · simp only [if_pos hk] at h ⊢
        split at h
        · simp at h
        · rename_i h2
          obtain ⟨g1, g2⟩ := checkMs_ok h
          exact ⟨mem g1, fun hk => by have := g2 (by omega); simp; omega⟩
      · simp only [if_neg hk] at h ⊢
        split at h
        · simp at h
        · obtain ⟨g1, g2⟩ := checkMs_ok h
          exact ⟨mem g1, g2⟩
    · rw [if_pos h1] at h; exact absurd h h1
theorem checkMs_of {j : Jn} : ∀ {ms : List Mv} {k : Nat}, (∀ m ∈ ms, MOk j m) → k + (binsOf ms).length ≤ 4 → checkMs j ms k = 0
  | [], k, _, _ => rfl
  | m :: ms, k, h1, h2 => by
    unfold checkMs
    have e := checkMv_of (h1 m (by simp))
    rw [if_neg (by rw [e]; simp)]
    rw [binsOf_cons] at h2
    by_cases hk : m.kind = 1
    · rw [if_pos hk] at h2
      simp only [List.length_cons] at h2
      rw [if_pos hk, if_neg (by omega)]
      exact checkMs_of (fun x hx => h1 x (by simp [hx])) (by omega)
    · rw [if_neg hk] at h2
      rw [if_neg hk, if_neg (by omega)]
      exact checkMs_of (fun x hx => h1 x (by simp [hx])) h2
theorem checkJ_ok {j : Jn} (h : checkJ j = 0) : JOk j := by
  unfold checkJ at h
  split at h
  · simp at h
  split at h
  · simp at h
  split at h
  · simp at h
  obtain ⟨g1, g2⟩ := checkMs_ok h
  exact ⟨by omega, by omega, by omega, by omega, by omega, g1, by have := g2 (by omega); omega⟩
theorem checkJ_of {j : Jn} (h : JOk j) : checkJ j = 0 := by
  unfold checkJ
  have h1 := h.i1; have h2 := h.i4; have h3 := h.f1; have h4 := h.f2; have h5 := h.m10
  rw [if_neg (by omega), if_neg (by omega), if_neg (by omega)]
  exact checkMs_of h.mv (by have := h.b4; omega)
structure LOk (l : List Int) : Prop where
  len : l.length = 4
  lo : ∀ i, 0 ≤ l.getD i 0
  hi : ∀ i, l.getD i 0 ≤ 5
theorem getD_setI (l : List Int) (i j : Nat) (x : Int) (hi : i < l.length) : (l.set i x).getD j 0 = if i = j then x else l.getD j 0 := by
  simp only [List.getD_eq_getElem?_getD, List.getElem?_set]
  by_cases h : i = j
  · subst h; simp [hi]
  · simp [h]
theorem LOk.set {l : List Int} (h : LOk l) {i : Nat} {x : Int} (hi : i < 4) (h0 : 0 ≤ x) (h5 : x ≤ 5) : LOk (l.set i x) :=
  ⟨by simp [h.len], fun j => by rw [getD_setI _ _ _ _ (by rw [h.len]; exact hi)]; split <;> first | exact h0 | exact h.lo j,
    fun j => by rw [getD_setI _ _ _ _ (by rw [h.len]; exact hi)]; split <;> first | exact h5 | exact h.hi j⟩
section
variable {ν ν' : Type} {j : Jn} {tk : Tk ν}
theorem drawL_ok {fifo : Bool} {bin inst : Int} : ∀ (bs : List Int) (i : Nat) (s : Ste ν) (a : Int), i + bs.length ≤ 4 → 0 ≤ a → LOk s.1 → ∀ s' ∈ drawL fifo tk bin inst bs i s a, LOk s'.1
  | [], i, s, a, _, _, h, s', hs => by
    unfold drawL at hs
    split at hs
    · simp at hs; subst hs; exact h
    · simp at hs
  | b :: bs, i, s, a, hi, ha, h, s', hs => by
    unfold drawL at hs
    simp only [List.length_cons] at hi
    split at hs
    · simp at hs; subst hs; exact h
    · split at hs
      · simp only [List.mem_flatMap] at hs
        obtain ⟨n, hn, hs⟩ := hs
        rw [mem_downR] at hn
        have h1 := h.lo i
        have h2 := h.hi i
        have hn0 : 0 ≤ n := by revert hn; split <;> omega
        refine drawL_ok bs (i + 1) _ _ (by omega) (by omega) ?_ s' hs
        unfold takeS
        split
        · exact h
        · exact h.set (by omega) (by omega) (by omega)
      · exact drawL_ok bs (i + 1) s a (by omega) ha h s' hs
theorem stepS_ok {bins : List Int} (hb : bins.length ≤ 4) {m : Mv} (hm : MOk j m) {b : Nat} (hb4 : m.kind = 1 → b < 4) {s : Ste ν} (h : LOk s.1) : ∀ s' ∈ stepS j tk bins m b s, LOk s'.1 := by
  intro s' hs
  have h8 := hm.l0; have h9 := hm.lh; have h10 := hm.h5
  unfold stepS at hs
  split at hs
  · rename_i hk
    simp only [List.mem_map] at hs
    obtain ⟨n, hn, rfl⟩ := hs
    rw [mem_upR] at hn
    exact h.set (hb4 hk) (by omega) (by omega)
  · split at hs
    · simp only [List.mem_flatMap] at hs
      obtain ⟨i, -, n, hn, hs⟩ := hs
      rw [mem_upR] at hn
      exact drawL_ok bins 0 s n (by omega) (by omega) h s' hs
    · split at hs
      · simp at hs; subst hs; exact h
      · simp at hs
theorem drawL_map (tk' : Tk ν') (f : ν → ν') (hf : ∀ x i b n, f (tk x i b n) = tk' (f x) i b n) {fifo : Bool} {bin inst : Int} : ∀ (bs : List Int) (i : Nat) (s : Ste ν) (a : Int),
    (drawL fifo tk bin inst bs i s a).map (fun s => (s.1, f s.2)) = drawL fifo tk' bin inst bs i (s.1, f s.2) a
  | [], i, s, a => by unfold drawL; split <;> rfl
  | b :: bs, i, s, a => by
    unfold drawL
    split
    · rfl
    · split
      · rw [List.map_flatMap]
        refine congrArg (fun g => List.flatMap g _) (funext fun n => ?_)
        rw [drawL_map tk' f hf bs (i + 1)]
        unfold takeS
        split
        · rfl
        · simp only [hf]
      · exact drawL_map tk' f hf bs (i + 1) s a
theorem stepS_map (tk' : Tk ν') (f : ν → ν') (hf : ∀ x i b n, f (tk x i b n) = tk' (f x) i b n) (bins : List Int) (m : Mv) (b : Nat) (s : Ste ν) :
    (stepS j tk bins m b s).map (fun s => (s.1, f s.2)) = stepS j tk' bins m b (s.1, f s.2) := by
  unfold stepS
  split
  · rw [List.map_map]; rfl
  · split
    · simp only [List.map_flatMap, drawL_map tk' f hf]
    · split <;> rfl
theorem endsF_map (tk' : Tk ν') (f : ν → ν') (hf : ∀ x i b n, f (tk x i b n) = tk' (f x) i b n) (bins : List Int) : ∀ (ms : List Mv) (b : Nat) (now : List (Ste ν)),
    (endsF j tk bins ms b now).map (fun s => (s.1, f s.2)) = endsF j tk' bins ms b (now.map fun s => (s.1, f s.2))
  | [], _, _ => rfl
  | m :: ms, b, now => by
    unfold endsF
    rw [endsF_map tk' f hf bins ms]
    congr 1
    rw [List.map_flatMap, List.flatMap_map]
    exact congrArg (fun g => List.flatMap g now) (funext fun s => stepS_map tk' f hf bins m b s)
theorem endsS_map (tk' : Tk ν') (f : ν → ν') (hf : ∀ x i b n, f (tk x i b n) = tk' (f x) i b n) (z : ν) : endsS j tk' (f z) = (endsS j tk z).map fun s => (s.1, f s.2) := by
  unfold endsS; rw [endsF_map tk' f hf]; rfl
def foldTk (tk : Tk ν) (z : ν) (l : List (Int × Nat × Int)) : ν := l.foldl (fun x p => tk x p.1 p.2.1 p.2.2) z
theorem endsS_all (tk : Tk ν) (z : ν) : endsS j tk z = (endsS j tkAll []).map fun s => (s.1, foldTk tk z s.2) :=
  endsS_map (tk := tkAll) tk (foldTk tk z) (fun x i b n => by simp [foldTk, tkAll]) []
end
end Go.Batch

namespace Go.Batch
def sumO (of : List Int) : List Int → Nat → Int
  | [], _ => 0
  | _ :: bs, i => of.getD i 0 + sumO of bs (i + 1)
def takesO (inst : Int) (of : List Int) : List Int → Nat → List (Int × Nat × Int)
  | [], _ => []
  | _ :: bs, i => if of.getD i 0 = 0 then takesO inst of bs (i + 1) else (inst, i, of.getD i 0) :: takesO inst of bs (i + 1)
theorem sumO_nn {of : List Int} (h : ∀ i, 0 ≤ of.getD i 0) : ∀ (bs : List Int) (i : Nat), 0 ≤ sumO of bs i
  | [], _ => Int.le_refl _
  | _ :: bs, i => by have := sumO_nn h bs (i + 1); have := h i; simp only [sumO]; omega
theorem sumO_zero {of : List Int} (h : ∀ i, 0 ≤ of.getD i 0) : ∀ (bs : List Int) (i : Nat), sumO of bs i = 0 → ∀ k, i ≤ k → k < i + bs.length → of.getD k 0 = 0
  | [], i, _, k, h1, h2 => by simp at h2; omega
  | b :: bs, i, h0, k, h1, h2 => by
    have g1 := sumO_nn h bs (i + 1)
    have g2 := h i
    simp only [sumO] at h0
    by_cases e : k = i
    · subst e; omega
    · exact sumO_zero h bs (i + 1) (by omega) k (by omega) (by simp at h2; omega)
theorem takesO_zero {inst : Int} {of : List Int} : ∀ (bs : List Int) (i : Nat), (∀ k, i ≤ k → k < i + bs.length → of.getD k 0 = 0) → takesO inst of bs i = []
  | [], _, _ => rfl
  | b :: bs, i, h => by
    simp only [takesO]
    rw [if_pos (h i (Nat.le_refl _) (by simp))]
    exact takesO_zero bs (i + 1) fun k h1 h2 => h k (by omega) (by simp; omega)
structure Took (fifo : Bool) (bin : Int) (bs : List Int) (i : Nat) (l of : List Int) : Prop where
  nn : ∀ k, 0 ≤ of.getD k 0
  le : ∀ k, of.getD k 0 ≤ l.getD k 0
  oth : ∀ (k : Nat) (b : Int), bs[k]? = some b → b ≠ bin → of.getD (i + k) 0 = 0
  fst : fifo = true → ∀ (k k' : Nat) (b : Int), k < k' → bs[k]? = some b → b = bin → 0 < of.getD (i + k') 0 → k' < bs.length → of.getD (i + k) 0 = l.getD (i + k) 0
theorem Took.tail {fifo : Bool} {bin b : Int} {bs : List Int} {i : Nat} {l l' of : List Int} (h : Took fifo bin (b :: bs) i l of) (hl : ∀ k, i + 1 ≤ k → l'.getD k 0 = l.getD k 0) (hl' : ∀ k, of.getD k 0 ≤ l'.getD k 0 ∨ k = i) {of' : List Int}
    (ho : ∀ k, i + 1 ≤ k → of'.getD k 0 = of.getD k 0) (ho' : ∀ k, 0 ≤ of'.getD k 0 ∧ of'.getD k 0 ≤ l'.getD k 0) : Took fifo bin bs (i + 1) l' of' :=
  ⟨fun k => (ho' k).1, fun k => (ho' k).2, fun k b' hk hb => by
    rw [ho _ (by omega)]
    have := h.oth (k + 1) b' (by simpa using hk) hb
    rw [show i + (k + 1) = i + 1 + k by omega] at this; exact this, fun hf k k' b' hkk hk hb h0 hlt => by
    rw [ho _ (by omega)] at h0 ⊢
    rw [hl _ (by omega)]
    have := h.fst hf (k + 1) (k' + 1) b' (by omega) (by simpa using hk) hb (by rw [show i + (k' + 1) = i + 1 + k' by omega]; exact h0) (by simp; omega)
    rw [show i + (k + 1) = i + 1 + k by omega] at this; exact this⟩
theorem drawL_took {fifo : Bool} {bin inst : Int} : ∀ (bs : List Int) (i : Nat) (l of l2 : List Int) (p : List (Int × Nat × Int)) (a : Int), Took fifo bin bs i l of → i + bs.length ≤ l.length → sumO of bs i = a →
    l2.length = l.length → (∀ k, l2.getD k 0 = if i ≤ k ∧ k < i + bs.length then l.getD k 0 - of.getD k 0 else l.getD k 0) → (l2, p ++ takesO inst of bs i) ∈ drawL fifo tkAll bin inst bs i (l, p) a
  | bs, i, l, of, l2, p, a, ht, hi, hs, hl2, h2 => by
    have ext : (∀ k, l2.getD k 0 = l.getD k 0) → l2 = l := fun h => by
      refine List.ext_getElem hl2 fun k g1 g2 => ?_
      have := h k
      simpa [List.getD_eq_getElem?_getD, List.getElem?_eq_getElem g1, List.getElem?_eq_getElem g2] using this
    have zero : a = 0 → (l2, p ++ takesO inst of bs i) = (l, p) := fun ha => by
      have hz := sumO_zero ht.nn bs i (by omega)
      rw [takesO_zero bs i hz, List.append_nil, ext fun k => by
        rw [h2]; split
        · rename_i hk; rw [hz k hk.1 hk.2]; omega
        · rfl]
    cases bs with
    | nil =>
      unfold drawL
      have ha : a = 0 := by simpa [sumO] using hs.symm
      rw [if_pos ha, zero ha]; simp
    | cons b bs =>
      unfold drawL
      by_cases ha : a = 0
      · rw [if_pos ha, zero ha]; simp
      · rw [if_neg ha]
        simp only [sumO] at hs
        simp only [List.length_cons] at hi h2
        have hsn := sumO_nn ht.nn bs (i + 1)
        have hon := ht.nn i
        have hol := ht.le i
        by_cases hc : b = bin ∧ l.getD i 0 ≠ 0
        · rw [if_pos hc]
          simp only [List.mem_flatMap]
          refine ⟨of.getD i 0, ?_, ?_⟩
          · rw [mem_downR]
            have hle : of.getD i 0 ≤ min a (l.getD i 0) := by omega
            refine ⟨?_, hle⟩
            split
            · rename_i hf
              -- greedy
              apply Int.not_lt.1; intro hlt
              have hpos : 0 < sumO of bs (i + 1) := by omega
              have hex : ∃ k, k < bs.length ∧ 0 < of.getD (i + 1 + k) 0 := by
                have : ∀ (bs : List Int) (j : Nat), 0 < sumO of bs j → ∃ k, k < bs.length ∧ 0 < of.getD (j + k) 0 := fun bs => by
                  induction bs with
                  | nil => intro j hj; simp [sumO] at hj
                  | cons c cs ih =>
                    intro j hj
                    simp only [sumO] at hj
                    by_cases h0 : 0 < of.getD j 0
                    · exact ⟨0, by simp, h0⟩
                    · have := ht.nn j
                      obtain ⟨k, g1, g2⟩ := ih (j + 1) (by omega)
                      exact ⟨k + 1, by simp; omega, by rw [show j + (k + 1) = j + 1 + k by omega]; exact g2⟩
                exact this bs (i + 1) hpos
              obtain ⟨k, g1, g2⟩ := hex
              have := ht.fst hf 0 (k + 1) b (by omega) rfl hc.1 (by rw [show i + (k + 1) = i + 1 + k by omega]; exact g2) (by simp; omega)
              simp only [Nat.add_zero] at this
              omega
            · omega
          · have hlen : i < l.length := by omega
            have key : ∀ (l1 : List Int) (p1 : List (Int × Nat × Int)), l1.length = l.length → (∀ k, l1.getD k 0 = if k = i then l.getD i 0 - of.getD i 0 else l.getD k 0) → p1 ++ takesO inst of bs (i + 1) = p ++ takesO inst of (b :: bs) i →
                takeS tkAll inst (l, p) i (of.getD i 0) = (l1, p1) → (l2, p ++ takesO inst of (b :: bs) i) ∈ drawL fifo tkAll bin inst bs (i + 1) (takeS tkAll inst (l, p) i (of.getD i 0)) (a - of.getD i 0) := fun l1 p1 e1 e2 e3 e4 => by
              rw [e4, ← e3]
              let of' : List Int := of.set i 0
              have hof' : ∀ k, of'.getD k 0 = if k = i then 0 else of.getD k 0 := fun k => by
                simp only [of', List.getD_eq_getElem?_getD, List.getElem?_set]
                by_cases e : i = k
                · subst e; simp; split <;> rfl
                · simp [e, Ne.symm e]
              have hsame : ∀ (bs : List Int) (j : Nat), i < j → sumO of' bs j = sumO of bs j ∧ takesO inst of' bs j = takesO inst of bs j := fun bs => by
                induction bs with
                | nil => intro j _; exact ⟨rfl, rfl⟩
                | cons c cs ih =>
                  intro j hj
                  obtain ⟨g1, g2⟩ := ih (j + 1) (by omega)
                  have e : of'.getD j 0 = of.getD j 0 := by rw [hof', if_neg (by omega)]
                  simp only [sumO, takesO, e, g1, g2, and_self]
              obtain ⟨s1, s2⟩ := hsame bs (i + 1) (by omega)
              rw [← s2]
              refine drawL_took bs (i + 1) l1 of' l2 p1 (a - of.getD i 0) ?_ (by omega) (by rw [s1]; omega) (by omega) (fun k => ?_)
              · refine ht.tail (fun k hk => by rw [e2, if_neg (by omega)]) (fun k => ?_) (fun k hk => by rw [hof', if_neg (by omega)]) (fun k => ?_)
                · by_cases e : k = i
                  · exact .inr e
                  · left; rw [e2, if_neg e]; exact ht.le k
                · rw [hof', e2]
                  by_cases e : k = i
                  · rw [if_pos e, if_pos e]; omega
                  · rw [if_neg e, if_neg e]; exact ⟨ht.nn k, ht.le k⟩
              · rw [h2, e2, hof']
                by_cases e : k = i
                · subst e
                  rw [if_pos ⟨Nat.le_refl _, by omega⟩, if_neg (by omega), if_pos rfl]
                · rw [if_neg e, if_neg e]
                  by_cases g : i ≤ k ∧ k < i + (bs.length + 1)
                  · rw [if_pos g, if_pos (by omega)]
                  · rw [if_neg g, if_neg (by omega)]
            by_cases h0 : of.getD i 0 = 0
            · exact key l p rfl (fun k => by split <;> simp_all) (by simp only [takesO]; rw [if_pos h0]) (by unfold takeS; rw [if_pos h0])
            · refine key (l.set i (l.getD i 0 - of.getD i 0)) (p ++ [(inst, i, of.getD i 0)]) (by simp) (fun k => by
                rw [getD_setI _ _ _ _ hlen]
                by_cases e : i = k
                · subst e; simp
                · rw [if_neg e, if_neg (Ne.symm e)]) (by simp only [takesO]; rw [if_neg h0]; simp) (by unfold takeS; rw [if_neg h0]; rfl)
        · rw [if_neg hc]
          have h0 : of.getD i 0 = 0 := by
            by_cases hb : b = bin
            · have : l.getD i 0 = 0 := Decidable.byContradiction fun h => hc ⟨hb, h⟩
              omega
            · have := ht.oth 0 b rfl hb; simpa using this
          have e3 : takesO inst of (b :: bs) i = takesO inst of bs (i + 1) := by simp only [takesO]; rw [if_pos h0]
          rw [e3]
          refine drawL_took bs (i + 1) l of l2 p a (ht.tail (fun _ _ => rfl) (fun k => .inl (ht.le k)) (fun _ _ => rfl) (fun k => ⟨ht.nn k, ht.le k⟩)) (by omega) (by omega) hl2 (fun k => ?_)
          rw [h2]
          by_cases e : k = i
          · subst e
            rw [if_pos ⟨Nat.le_refl _, by omega⟩, if_neg (by omega), h0]; omega
          · by_cases g : i ≤ k ∧ k < i + (bs.length + 1)
            · rw [if_pos g, if_pos (by omega)]
            · rw [if_neg g, if_neg (by omega)]
  termination_by bs => bs.length
section
variable {ν : Type} {j : Jn} {tk : Tk ν}
theorem endsF_app {bins : List Int} : ∀ (ms ms' : List Mv) (b : Nat) (now : List (Ste ν)), endsF j tk bins (ms ++ ms') b now = endsF j tk bins ms' (b + (binsOf ms).length) (endsF j tk bins ms b now)
  | [], _, _, _ => rfl
  | m :: ms, ms', b, now => by
    simp only [List.cons_append, endsF]
    rw [endsF_app ms ms', binsOf_cons]
    congr 1
    split <;> simp <;> omega
theorem binsOf_app (ms ms' : List Mv) : binsOf (ms ++ ms') = binsOf ms ++ binsOf ms' := by simp [binsOf]
theorem drawL_ext {fifo : Bool} {bin inst : Int} : ∀ (bs ext : List Int) (i : Nat) (s : Ste ν) (a : Int), (∀ k, i + bs.length ≤ k → s.1.getD k 0 = 0) → i + bs.length ≤ s.1.length → drawL fifo tk bin inst (bs ++ ext) i s a = drawL fifo tk bin inst bs i s a
  | [], [], i, s, a, _, _ => rfl
  | [], e :: ext, i, s, a, h, hl => by
    simp only [List.nil_append]
    have key : ∀ (ext : List Int) (i : Nat), (∀ k, i ≤ k → s.1.getD k 0 = 0) → drawL fifo tk bin inst ext i s a = drawL fifo tk bin inst [] i s a := fun ext => by
      induction ext with
      | nil => intro i _; rfl
      | cons x xs ihx =>
        intro i hi
        unfold drawL
        split
        · rfl
        · rw [if_neg (by rw [hi i (Nat.le_refl _)]; simp), ihx (i + 1) (fun k hk => hi k (by omega))]
          rename_i h0
          unfold drawL; rw [if_neg h0]
    exact key (e :: ext) i (fun k hk => h k (by simpa using hk))
  | b :: bs, ext, i, s, a, h, hl => by
    simp only [List.cons_append, drawL]
    simp only [List.length_cons] at h hl
    split
    · rfl
    · split
      · refine congrArg (fun g => List.flatMap g _) (funext fun n => ?_)
        refine drawL_ext bs ext (i + 1) _ _ (fun k hk => ?_) ?_
        · unfold takeS
          split
          · exact h k (by omega)
          · show (s.1.set i _).getD k 0 = 0
            rw [getD_setI _ _ _ _ (by omega), if_neg (by omega)]; exact h k (by omega)
        · unfold takeS
          split
          · omega
          · simp; omega
      · exact drawL_ext bs ext (i + 1) s a (fun k hk => h k (by omega)) (by omega)
end
end Go.Batch

namespace Go.Batch
theorem foldl_min_le (l : List Int) : ∀ (x : Int), l.foldl min x ≤ x ∧ (∀ y ∈ l, l.foldl min x ≤ y) ∧ (l.foldl min x = x ∨ l.foldl min x ∈ l) := by
  induction l with
  | nil => intro x; simp
  | cons a l ih =>
    intro x
    obtain ⟨h1, h2, h3⟩ := ih (min x a)
    simp only [List.foldl_cons]
    refine ⟨by omega, fun y hy => ?_, ?_⟩
    · rcases List.mem_cons.1 hy with rfl | hy
      · omega
      · exact h2 y hy
    · rcases h3 with h3 | h3
      · by_cases h : x ≤ a
        · left; rw [h3]; omega
        · right; rw [h3]; have : min x a = a := by omega
          rw [this]; simp
      · right; simp [h3]
theorem foldl_max_le (l : List Int) : ∀ (x : Int), x ≤ l.foldl max x ∧ (∀ y ∈ l, y ≤ l.foldl max x) ∧ (l.foldl max x = x ∨ l.foldl max x ∈ l) := by
  induction l with
  | nil => intro x; simp
  | cons a l ih =>
    intro x
    obtain ⟨h1, h2, h3⟩ := ih (max x a)
    simp only [List.foldl_cons]
    refine ⟨by omega, fun y hy => ?_, ?_⟩
    · rcases List.mem_cons.1 hy with rfl | hy
      · omega
      · exact h2 y hy
    · rcases h3 with h3 | h3
      · by_cases h : a ≤ x
        · left; rw [h3]; omega
        · right; rw [h3]; have : max x a = a := by omega
          rw [this]; simp
      · right; simp [h3]
theorem leastI_le {l : List Int} {y : Int} (h : y ∈ l) : leastI l ≤ y := by
  cases l with
  | nil => simp at h
  | cons a l =>
    obtain ⟨h1, h2, -⟩ := foldl_min_le l a
    rcases List.mem_cons.1 h with rfl | h
    · exact h1
    · exact h2 y h
theorem leastI_mem {l : List Int} (h : l ≠ []) : leastI l ∈ l := by
  cases l with
  | nil => exact absurd rfl h
  | cons a l =>
    obtain ⟨-, -, h3⟩ := foldl_min_le l a
    rcases h3 with h3 | h3
    · show l.foldl min a ∈ a :: l; rw [h3]; simp
    · exact List.mem_cons.2 (.inr h3)
theorem le_mostI {l : List Int} {y : Int} (h : y ∈ l) : y ≤ mostI l := by
  cases l with
  | nil => simp at h
  | cons a l =>
    obtain ⟨h1, h2, -⟩ := foldl_max_le l a
    rcases List.mem_cons.1 h with rfl | h
    · exact h1
    · exact h2 y h
theorem mostI_mem {l : List Int} (h : l ≠ []) : mostI l ∈ l := by
  cases l with
  | nil => exact absurd rfl h
  | cons a l =>
    obtain ⟨-, -, h3⟩ := foldl_max_le l a
    rcases h3 with h3 | h3
    · show l.foldl max a ∈ a :: l; rw [h3]; simp
    · exact List.mem_cons.2 (.inr h3)
theorem leastI_congr {l l' : List Int} (h : ∀ x, x ∈ l ↔ x ∈ l') : leastI l = leastI l' := by
  by_cases e : l = []
  · have : l' = [] := by
      cases l' with
      | nil => rfl
      | cons a l' => have := (h a).2 (by simp); rw [e] at this; simp at this
    rw [e, this]
  · have e' : l' ≠ [] := fun e' => by have := (h _).1 (leastI_mem e); rw [e'] at this; simp at this
    exact Int.le_antisymm (leastI_le ((h _).2 (leastI_mem e'))) (leastI_le ((h _).1 (leastI_mem e)))
theorem mostI_congr {l l' : List Int} (h : ∀ x, x ∈ l ↔ x ∈ l') : mostI l = mostI l' := by
  by_cases e : l = []
  · have : l' = [] := by
      cases l' with
      | nil => rfl
      | cons a l' => have := (h a).2 (by simp); rw [e] at this; simp at this
    rw [e, this]
  · have e' : l' ≠ [] := fun e' => by have := (h _).1 (leastI_mem e); rw [e'] at this; simp at this
    exact Int.le_antisymm (le_mostI ((h _).1 (mostI_mem e))) (le_mostI ((h _).2 (mostI_mem e')))
theorem rangeI_congr {l l' : List Int} (h : ∀ x, x ∈ l ↔ x ∈ l') : rangeI l = rangeI l' := by
  unfold rangeI; rw [leastI_congr h, mostI_congr h]
structure TkB (tk : Tk Int) : Prop where
  out : ∀ (x i : Int) (b : Nat) (n : Int), 0 ≤ x → 0 ≤ i → i < 4 → b < 4 → 1 ≤ n → n ≤ 5 → 0 ≤ tk x i b n ∧ tk x i b n ≤ x + 16
theorem or_le_add (a b : Nat) : a ||| b ≤ a + b := by
  induction a using Nat.strongRecOn generalizing b with
  | _ a ih =>
    by_cases h0 : a = 0
    · subst h0; simp
    · have h1 : (a ||| b) = 2 * (a / 2 ||| b / 2) + ((a % 2) ||| (b % 2)) := by
        have e1 : (a ||| b) / 2 = a / 2 ||| b / 2 := Nat.or_div_two
        have e2 : (a ||| b) % 2 = (a % 2) ||| (b % 2) := by
          have := Nat.or_mod_two_pow (a := a) (b := b) (n := 1); simpa using this
        omega
      have h2 := ih (a / 2) (by omega) (b / 2)
      have h3 : (a % 2) ||| (b % 2) ≤ a % 2 + b % 2 := by
        rcases Nat.mod_two_eq_zero_or_one a with e | e <;> rcases Nat.mod_two_eq_zero_or_one b with e' | e' <;> rw [e, e'] <;> decide
      omega
theorem withB_b {x : Int} {n : Nat} (h0 : 0 ≤ x) (hn : n < 4) : 0 ≤ withB x n ∧ withB x n ≤ x + 16 := by
  unfold withB
  have h1 := or_le_add x.toNat (1 <<< n)
  have h2 : (1 <<< n : Nat) ≤ 8 := by
    match n, hn with
    | 0, _ => decide
    | 1, _ => decide
    | 2, _ => decide
    | 3, _ => decide
  omega
theorem tkB_none : TkB tkNone := ⟨fun x i b n h _ _ _ _ _ => ⟨Int.le_refl _, by show (0 : Int) ≤ _; omega⟩⟩
theorem tkB_amt (i0 : Int) (b0 : Nat) : TkB (tkAmt i0 b0) := ⟨fun x i b n h _ _ _ h1 h5 => by unfold tkAmt; split <;> omega⟩
theorem tkB_has (g i0 : Int) : TkB (tkHas g i0) := ⟨fun x i b n h _ _ _ h1 h5 => by unfold tkHas; split <;> omega⟩
theorem tkB_mix (i0 : Int) : TkB (tkMix i0) := ⟨fun x i b n h _ _ hb h1 h5 => by
  unfold tkMix; split
  · exact withB_b h hb
  · omega⟩
theorem tkB_sus (b0 : Nat) : TkB (tkSus b0) := ⟨fun x i b n h hi hi4 hb h1 h5 => by
  unfold tkSus; split
  · exact withB_b h (by omega)
  · omega⟩
section
variable {j : Jn} {tk : Tk Int}
theorem drawL_nb (ht : TkB tk) {fifo : Bool} {bin inst : Int} (hi0 : 0 ≤ inst) (hi4 : inst < 4) : ∀ (bs : List Int) (i : Nat) (s : Ste Int) (a K : Int), i + bs.length ≤ 4 → 0 ≤ a → a ≤ 5 → LOk s.1 → 0 ≤ s.2 → s.2 ≤ K → ∀ s' ∈ drawL fifo tk bin inst bs i s a, 0 ≤ s'.2 ∧ s'.2 ≤ K + 16 * bs.length
  | [], i, s, a, K, _, _, _, _, h0, h1, s', hs => by
    unfold drawL at hs
    split at hs
    · simp at hs; subst hs; exact ⟨h0, by simpa using h1⟩
    · simp at hs
  | b :: bs, i, s, a, K, hi, ha, ha5, h, h0, h1, s', hs => by
    unfold drawL at hs
    simp only [List.length_cons] at hi ⊢
    split at hs
    · simp at hs; subst hs; exact ⟨h0, by omega⟩
    · split at hs
      · simp only [List.mem_flatMap] at hs
        obtain ⟨n, hn, hs⟩ := hs
        rw [mem_downR] at hn
        have g1 := h.lo i
        have g2 := h.hi i
        have hn0 : 0 ≤ n := by revert hn; split <;> omega
        have := drawL_nb ht hi0 hi4 bs (i + 1) (takeS tk inst s i n) (a - n) (K + 16) (by omega) (by omega) (by omega) ?_ ?_ ?_ s' hs
        · exact ⟨this.1, by have := this.2; omega⟩
        all_goals
          unfold takeS
          split
          · first | exact h | exact h0 | omega
          · first
              | exact h.set (by omega) (by omega) (by omega)
              | exact (ht.out _ _ _ _ h0 hi0 hi4 (by omega) (by omega) (by omega)).1
              | (have := (ht.out s.2 inst i n h0 hi0 hi4 (by omega) (by omega) (by omega)).2; show tk s.2 inst i n ≤ _; omega)
      · have := drawL_nb ht hi0 hi4 bs (i + 1) s a K (by omega) ha ha5 h h0 h1 s' hs
        exact ⟨this.1, by have := this.2; omega⟩
theorem instR_mem {m : Mv} (hj : j.ins ≤ 4) (hm : MOk j m) (hk : m.kind = 2) {i : Int} (h : i ∈ instR j.ins m) : 0 ≤ i ∧ i < j.ins := by
  unfold instR at h
  split at h
  · rw [mem_upR] at h; omega
  · simp at h; subst h; exact ⟨by omega, hm.i1 hk⟩
theorem stepS_nb (ht : TkB tk) (hj : j.ins ≤ 4) {bins : List Int} (hb : bins.length ≤ 4) {m : Mv} (hm : MOk j m) {b : Nat} {s : Ste Int} {K : Int} (h : LOk s.1) (h0 : 0 ≤ s.2) (h1 : s.2 ≤ K) : ∀ s' ∈ stepS j tk bins m b s, 0 ≤ s'.2 ∧ s'.2 ≤ K + 64 := by
  intro s' hs
  have h8 := hm.l0; have h9 := hm.lh; have h10 := hm.h5
  unfold stepS at hs
  split at hs
  · simp only [List.mem_map] at hs
    obtain ⟨n, hn, rfl⟩ := hs
    exact ⟨h0, by show s.2 ≤ _; omega⟩
  · split at hs
    · rename_i hk
      simp only [List.mem_flatMap] at hs
      obtain ⟨i, hi, n, hn, hs⟩ := hs
      rw [mem_upR] at hn
      obtain ⟨i1, i2⟩ := instR_mem hj hm hk hi
      have := drawL_nb ht i1 (by omega) bins 0 s n K (by omega) (by omega) (by omega) h h0 h1 s' hs
      exact ⟨this.1, by have := this.2; omega⟩
    · split at hs
      · simp at hs; subst hs; exact ⟨h0, by omega⟩
      · simp at hs
structure SOk (k : Nat) (s : Ste Int) : Prop where
  l : LOk s.1
  n0 : 0 ≤ s.2
  nk : s.2 ≤ 64 * k
theorem endsF_sok (ht : TkB tk) (hj : j.ins ≤ 4) {bins : List Int} (hb : bins.length ≤ 4) : ∀ (ms : List Mv) (b k : Nat) (now : List (Ste Int)), (∀ m ∈ ms, MOk j m) → b + (binsOf ms).length ≤ 4 → (∀ s ∈ now, SOk k s) → ∀ s ∈ endsF j tk bins ms b now, SOk (k + ms.length) s
  | [], b, k, now, _, _, hn, s, hs => hn s hs
  | m :: ms, b, k, now, hm, hbb, hn, s, hs => by
    unfold endsF at hs
    rw [binsOf_cons] at hbb
    have := endsF_sok ht hj hb ms _ (k + 1) _ (fun x hx => hm x (by simp [hx])) (by split <;> simp_all <;> omega) (fun s' hs' => by
      simp only [List.mem_flatMap] at hs'
      obtain ⟨s0, h0, h1⟩ := hs'
      have g := hn s0 h0
      have := stepS_nb ht hj hb (hm m (by simp)) g.l g.n0 g.nk s' h1
      exact ⟨stepS_ok hb (hm m (by simp)) (fun hk => by rw [if_pos hk] at hbb; simp at hbb; omega) g.l s' h1, this.1, by have := this.2; omega⟩) s hs
    rw [show k + (m :: ms).length = k + 1 + ms.length by simp; omega]
    exact this
theorem lOk0 : LOk [0, 0, 0, 0] := ⟨rfl, fun i => by
  match i with
  | 0 => decide
  | 1 => decide
  | 2 => decide
  | 3 => decide
  | n + 4 => exact Int.le_refl _, fun i => by
  match i with
  | 0 => decide
  | 1 => decide
  | 2 => decide
  | 3 => decide
  | n + 4 => show (0 : Int) ≤ 5; decide⟩
theorem endsS_sok (ht : TkB tk) (hj : JOk j) : ∀ s ∈ endsS j tk 0, SOk j.moves.length s := by
  have := endsF_sok ht hj.i4 hj.b4 j.moves 0 0 [([0, 0, 0, 0], 0)] hj.mv (by have := hj.b4; omega) (fun s hs => by
    simp at hs; subst hs; exact ⟨lOk0, Int.le_refl _, Int.le_refl _⟩)
  rw [Nat.zero_add] at this
  exact this
end
section
variable {ν : Type} {tk : Tk ν}
end
end Go.Batch

namespace Go.Batch
theorem inL_ext {bin : Int} : ∀ (bs ext l : List Int), (∀ k, bs.length ≤ k → l.getD k 0 = 0) → inL bin (bs ++ ext) l = inL bin bs l
  | [], ext, l, h => by
    have key : ∀ (ext l : List Int), (∀ k, l.getD k 0 = 0) → inL bin ext l = 0 := fun ext => by
      induction ext with
      | nil => intro l _; rfl
      | cons e ext ih =>
        intro l hl
        unfold inL
        have h0 : l.headD 0 = 0 := by have := hl 0; cases l <;> simpa using this
        rw [ih l.tail (fun k => by have := hl (k + 1); cases l <;> simpa using this), h0]
        split <;> rfl
    exact key ext l fun k => h k (by simp)
  | b :: bs, ext, l, h => by
    simp only [List.cons_append, inL]
    rw [inL_ext bs ext l.tail fun k hk => by have := h (k + 1) (by simp; omega); cases l <;> simpa using this]
def amtP (n : Int) (b : Nat) : List (Int × Nat × Int) → Int
  | [] => 0
  | p :: l => (if p.1 = n ∧ p.2.1 = b then p.2.2 else 0) + amtP n b l
def amtT (n : Int) (b : Nat) : List (Int × List Int) → Int
  | [] => 0
  | t :: l => (if t.1 = n then t.2.getD b 0 else 0) + amtT n b l
theorem amtP_app (n : Int) (b : Nat) : ∀ (l l' : List (Int × Nat × Int)), amtP n b (l ++ l') = amtP n b l + amtP n b l'
  | [], l' => by simp [amtP]
  | p :: l, l' => by simp only [List.cons_append, amtP, amtP_app n b l l']; omega
theorem amtT_app (n : Int) (b : Nat) : ∀ (l l' : List (Int × List Int)), amtT n b (l ++ l') = amtT n b l + amtT n b l'
  | [], l' => by simp [amtT]
  | p :: l, l' => by simp only [List.cons_append, amtT, amtT_app n b l l']; omega
theorem amtP_takes {inst n : Int} {b : Nat} {of : List Int} : ∀ (bs : List Int) (i : Nat), amtP n b (takesO inst of bs i) = if inst = n ∧ i ≤ b ∧ b < i + bs.length then of.getD b 0 else 0
  | [], i => by simp only [takesO, amtP, List.length_nil]; rw [if_neg (by omega)]
  | c :: bs, i => by
    have ih := amtP_takes (inst := inst) (n := n) (b := b) (of := of) bs (i + 1)
    simp only [takesO, List.length_cons]
    by_cases hb : b = i
    · subst hb
      rw [if_neg (by omega)] at ih
      split
      · rename_i h0; rw [ih, h0]; simp
      · simp only [amtP, ih]
        by_cases hn : inst = n
        · rw [if_pos ⟨hn, trivial⟩, if_pos ⟨hn, Nat.le_refl _, by omega⟩]; omega
        · rw [if_neg (fun h => hn h.1), if_neg (fun h => hn h.1)]; rfl
    · have e : (inst = n ∧ i ≤ b ∧ b < i + (bs.length + 1)) ↔ (inst = n ∧ i + 1 ≤ b ∧ b < i + 1 + bs.length) := by omega
      split
      · rw [ih]; simp only [e]
      · simp only [amtP, ih, e]
        rw [if_neg (fun h => hb h.2.symm)]; omega
theorem foldTk_amt (n : Int) (b : Nat) : ∀ (l : List (Int × Nat × Int)) (z : Int), foldTk (tkAmt n b) z l = z + amtP n b l
  | [], z => by simp [foldTk, amtP]
  | p :: l, z => by
    have := foldTk_amt n b l (tkAmt n b z p.1 p.2.1 p.2.2)
    simp only [foldTk, List.foldl_cons] at this ⊢
    rw [this]
    simp only [tkAmt, amtP]
    split <;> omega
theorem stepS_j {ν : Type} {tk : Tk ν} {j j' : Jn} (h1 : j.ins = j'.ins) (h2 : j.first = j'.first) : stepS j tk = stepS j' tk := by
  unfold stepS; rw [h1, h2]
theorem endsF_j {ν : Type} {tk : Tk ν} {j j' : Jn} (h1 : j.ins = j'.ins) (h2 : j.first = j'.first) (bins : List Int) : ∀ (ms : List Mv) (b : Nat) (now : List (Ste ν)), endsF j tk bins ms b now = endsF j' tk bins ms b now
  | [], _, _ => rfl
  | m :: ms, b, now => by simp only [endsF]; rw [stepS_j h1 h2, endsF_j h1 h2 bins ms]
structure Gen (ins : Int) (first : List Bool) (ms : List Mv) (lies : List Int) (truth : List (Int × List Int)) : Prop where
  ok : ∀ m ∈ ms, MOk ⟨ins, first, []⟩ m
  b4 : (binsOf ms).length ≤ 4
  bin : ∀ b ∈ binsOf ms, 0 ≤ b ∧ b < first.length
  l : LOk lies
  z : ∀ k, (binsOf ms).length ≤ k → lies.getD k 0 = 0
  tl : truth.length = ms.length
  ti : ∀ t ∈ truth, (t.1 = -1 ∨ 0 ≤ t.1 ∧ t.1 < ins) ∧ (t.2 = [] ∨ t.2.length = 4) ∧ ∀ k, 0 ≤ t.2.getD k 0 ∧ t.2.getD k 0 ≤ 5
  run : ∃ path, (∀ ext, (lies, path) ∈ endsF ⟨ins, first, []⟩ tkAll (binsOf ms ++ ext) ms 0 [([0, 0, 0, 0], [])]) ∧ ∀ n b, 0 ≤ n → amtP n b path = amtT n b truth
theorem gen_nil (ins : Int) (first : List Bool) : Gen ins first [] [0, 0, 0, 0] [] :=
  ⟨fun m hm => by simp at hm, by simp [binsOf], fun b hb => by simp [binsOf] at hb, lOk0, fun k _ => by
    match k with
    | 0 => rfl
    | 1 => rfl
    | 2 => rfl
    | 3 => rfl
    | k + 4 => rfl, rfl, fun t h => by simp at h, [], fun ext => by simp [endsF], fun _ _ _ => rfl⟩
section
variable {ins : Int} {first : List Bool} {ms : List Mv} {lies : List Int} {truth : List (Int × List Int)}
theorem MOk.bins {m : Mv} (h : ∀ x ∈ ms ++ [m], MOk ⟨ins, first, []⟩ x) : ∀ b ∈ binsOf (ms ++ [m]), 0 ≤ b ∧ b < first.length := fun b hb => by
  simp only [binsOf, List.mem_map, List.mem_filter] at hb
  obtain ⟨x, ⟨hx, -⟩, rfl⟩ := hb
  exact ⟨(h x hx).b0, (h x hx).b1⟩
theorem Gen.step (h : Gen ins first ms lies truth) {m : Mv} (hm : MOk ⟨ins, first, []⟩ m) (hb : m.kind = 1 → (binsOf ms).length < 4) {lies' : List Int} (hl : LOk lies') (hz : ∀ k, (binsOf (ms ++ [m])).length ≤ k → lies'.getD k 0 = 0) {t : Int × List Int} {q : List (Int × Nat × Int)} (ht : (t.1 = -1 ∨ 0 ≤ t.1 ∧ t.1 < ins) ∧ (t.2 = [] ∨ t.2.length = 4) ∧ ∀ k, 0 ≤ t.2.getD k 0 ∧ t.2.getD k 0 ≤ 5)
    (hq : ∀ n b, 0 ≤ n → amtP n b q = amtT n b [t]) (hs : ∀ path ext, (lies', path ++ q) ∈ stepS ⟨ins, first, []⟩ tkAll (binsOf (ms ++ [m]) ++ ext) m (binsOf ms).length (lies, path)) : Gen ins first (ms ++ [m]) lies' (truth ++ [t]) := by
  have hok : ∀ x ∈ ms ++ [m], MOk ⟨ins, first, []⟩ x := fun x hx => by
    rcases List.mem_append.1 hx with hx | hx
    · exact h.ok x hx
    · simp at hx; subst hx; exact hm
  obtain ⟨path, p1, p2⟩ := h.run
  refine ⟨hok, ?_, MOk.bins (ins := ins) hok, hl, hz, by simp [h.tl], fun y hy => (by
    rcases List.mem_append.1 hy with hy | hy
    · exact h.ti y hy
    · simp at hy; subst hy; exact ht), path ++ q, fun ext => ?_, fun n b hn => by rw [amtP_app, amtT_app, p2 n b hn, hq n b hn]⟩
  · rw [binsOf_app, List.length_append, binsOf_cons]
    have := h.b4
    have e0 : (binsOf []).length = 0 := rfl
    split
    · rename_i hk; have := hb hk; rw [List.length_cons, e0]; omega
    · rw [e0]; exact this
  · rw [endsF_app, Nat.zero_add]
    simp only [endsF]
    rw [List.mem_flatMap]
    refine ⟨(lies, path), ?_, hs path ext⟩
    have := p1 (binsOf [m] ++ ext)
    rwa [← List.append_assoc, ← binsOf_app] at this
theorem Gen.in_ (h : Gen ins first ms lies truth) {bin n lo hi : Int} (hm : MOk ⟨ins, first, []⟩ ⟨1, bin, 0, lo, hi⟩) (hb : (binsOf ms).length < 4) (h1 : lo ≤ n) (h2 : n ≤ hi) : Gen ins first (ms ++ [⟨1, bin, 0, lo, hi⟩]) (lies.set (binsOf ms).length n) (truth ++ [(-1, [])]) := by
  have h8 := hm.l0; have h10 := hm.h5
  simp only at h8 h10
  refine h.step hm (fun _ => hb) (h.l.set hb (by omega) (by omega)) (fun k hk => ?_) (q := []) ⟨.inl rfl, .inl rfl, fun k => by simp⟩ (fun n b hn => ?_) (fun path ext => ?_)
  · rw [binsOf_app, List.length_append] at hk
    simp [binsOf] at hk
    rw [getD_setI _ _ _ _ (by rw [h.l.len]; exact hb), if_neg (by simp [binsOf]; omega)]
    exact h.z k (by simp [binsOf]; omega)
  · simp only [amtP, amtT]; rw [if_neg (by omega)]; rfl
  · unfold stepS
    simp only [if_true, List.append_nil, List.mem_map]
    exact ⟨n, mem_upR.2 ⟨h1, h2⟩, rfl⟩
theorem Gen.cnt (h : Gen ins first ms lies truth) {bin lo hi : Int} (hm : MOk ⟨ins, first, []⟩ ⟨3, bin, 0, lo, hi⟩) (h1 : lo ≤ inL bin (binsOf ms) lies) (h2 : inL bin (binsOf ms) lies ≤ hi) : Gen ins first (ms ++ [⟨3, bin, 0, lo, hi⟩]) lies (truth ++ [(-1, [])]) := by
  have e : binsOf (ms ++ [⟨3, bin, 0, lo, hi⟩]) = binsOf ms := by rw [binsOf_app]; simp [binsOf]
  refine h.step hm (fun e => by simp at e) h.l (fun k hk => by rw [e] at hk; exact h.z k hk) (q := []) ⟨.inl rfl, .inl rfl, fun k => by simp⟩ (fun n b hn => ?_) (fun path ext => ?_)
  · simp only [amtP, amtT]; rw [if_neg (by omega)]; rfl
  · rw [e]
    unfold stepS
    simp only [List.append_nil]
    rw [if_neg (by simp), if_neg (by simp), inL_ext _ _ _ h.z, if_pos ⟨h1, h2⟩]
    simp
theorem Gen.out (h : Gen ins first ms lies truth) {bin i t n lo hi : Int} {of l2 : List Int} (hm : MOk ⟨ins, first, []⟩ ⟨2, bin, i, lo, hi⟩) (hit : i = t ∨ i = -1) (ht0 : 0 ≤ t) (ht1 : t < ins) (h1 : lo ≤ n) (h2 : n ≤ hi)
    (htk : Took (first.getD bin.toNat false) bin (binsOf ms) 0 lies of) (hsum : sumO of (binsOf ms) 0 = n) (hl2 : l2.length = 4) (ho4 : of.length = 4) (hl : ∀ k, l2.getD k 0 = lies.getD k 0 - of.getD k 0) :
    Gen ins first (ms ++ [⟨2, bin, i, lo, hi⟩]) l2 (truth ++ [(t, of)]) := by
  have e : binsOf (ms ++ [⟨2, bin, i, lo, hi⟩]) = binsOf ms := by rw [binsOf_app]; simp [binsOf]
  have hof : ∀ k, (binsOf ms).length ≤ k → of.getD k 0 = 0 := fun k hk => by
    have g1 := htk.nn k; have g2 := htk.le k; rw [h.z k hk] at g2; omega
  refine h.step hm (fun e => by simp at e) ⟨hl2, fun k => ?_, fun k => ?_⟩ (fun k hk => ?_) (q := takesO t of (binsOf ms) 0) ⟨.inr ⟨ht0, ht1⟩, .inr ho4, fun k => ⟨htk.nn k, Int.le_trans (htk.le k) (h.l.hi k)⟩⟩ (fun n b hn => ?_) (fun path ext => ?_)
  · rw [hl]; have := htk.le k; omega
  · rw [hl]; have := htk.nn k; have := h.l.hi k; omega
  · rw [e] at hk; rw [hl, h.z k hk, hof k hk]; rfl
  · rw [amtP_takes]
    simp only [amtT]
    by_cases hb : b < (binsOf ms).length
    · by_cases hn' : t = n
      · rw [if_pos ⟨hn', Nat.zero_le _, by omega⟩, if_pos hn']; omega
      · rw [if_neg (fun g => hn' g.1), if_neg hn']; rfl
    · rw [if_neg (by omega), hof b (by omega)]; split <;> rfl
  · rw [e]
    unfold stepS
    rw [if_neg (by simp), if_pos rfl]
    simp only [List.mem_flatMap]
    refine ⟨t, ?_, n, mem_upR.2 ⟨h1, h2⟩, ?_⟩
    · unfold instR
      rcases hit with rfl | rfl
      · rw [if_neg (by show ¬ i < 0; omega)]; simp
      · rw [if_pos (by simp), mem_upR]; omega
    · have hlen := h.l.len
      rw [drawL_ext (binsOf ms) ext 0 (lies, path) n (fun k hk => h.z k (by simpa using hk)) (by rw [Nat.zero_add, hlen]; exact h.b4)]
      refine drawL_took (binsOf ms) 0 lies of l2 path n htk (by rw [Nat.zero_add, hlen]; exact h.b4) hsum (by rw [hl2, hlen]) (fun k => ?_)
      rw [hl]
      split
      · rfl
      · rename_i hk; rw [hof k (by omega)]; omega
theorem Took.unit {fifo : Bool} {bin : Int} {bs lies of cur : List Int} (h : Took fifo bin bs 0 lies of) (hc : ∀ k, cur.getD k 0 = lies.getD k 0 - of.getD k 0) {own : Nat} (ho : bs[own]? = some bin) (hp : 0 < cur.getD own 0)
    (hf : fifo = true → ∀ k, k < own → bs[k]? = some bin → cur.getD k 0 ≤ 0) {of' : List Int} (hof : ∀ k, of'.getD k 0 = if k = own then of.getD own 0 + 1 else of.getD k 0) : Took fifo bin bs 0 lies of' :=
  ⟨fun k => by rw [hof]; have g1 := h.nn k; have g2 := h.nn own; split <;> omega, fun k => by
    rw [hof]
    split
    · rename_i e; subst e; have := hc k; omega
    · exact h.le k, fun k b hk hb => by
    have := h.oth k b hk hb
    rw [hof, if_neg]
    · exact this
    · intro e
      rw [Nat.zero_add] at e; subst e
      rw [ho] at hk; cases hk; exact hb rfl, fun hff k k' b hkk hk hb h0 hlt => by
    simp only [Nat.zero_add] at h0 ⊢
    subst hb
    rw [hof] at h0 ⊢
    by_cases e1 : k' = own
    · subst e1
      rw [if_neg (by omega)]
      have g1 := hf hff k hkk hk
      have g2 := hc k
      have g3 := h.le k
      omega
    · rw [if_neg e1] at h0
      have := h.fst hff k k' b hkk hk rfl (by simpa using h0) hlt
      simp only [Nat.zero_add] at this
      by_cases e2 : k = own
      · subst e2
        have := hc k; omega
      · rw [if_neg e2]; exact this⟩
theorem took_nil {fifo : Bool} {bin : Int} {bs lies : List Int} (hl : ∀ k, 0 ≤ lies.getD k 0) : Took fifo bin bs 0 lies [0, 0, 0, 0] := by
  have z : ∀ k, ([0, 0, 0, 0] : List Int).getD k 0 = 0 := fun k => by
    match k with
    | 0 => rfl
    | 1 => rfl
    | 2 => rfl
    | 3 => rfl
    | k + 4 => rfl
  exact ⟨fun k => by rw [z]; exact Int.le_refl _, fun k => by rw [z]; exact hl k, fun k b _ _ => z _, fun _ k k' b _ _ _ h0 _ => by rw [z] at h0; omega⟩
theorem Gen.ends (h : Gen ins first ms lies truth) : ∃ path, (lies, path) ∈ endsS ⟨ins, first, ms⟩ tkAll [] ∧ ∀ n b, 0 ≤ n → amtP n b path = amtT n b truth := by
  obtain ⟨path, p1, p2⟩ := h.run
  refine ⟨path, ?_, p2⟩
  have := p1 []
  rw [List.append_nil] at this
  unfold endsS
  rwa [endsF_j (j := ⟨ins, first, ms⟩) (j' := ⟨ins, first, []⟩) rfl rfl]
end
end Go.Batch

namespace Go.Batch
section
variable {ν : Type}
structure RenOk (ins : Int) (π : Int → Int) : Prop where
  rng : ∀ i, 0 ≤ i → i < ins → 0 ≤ π i ∧ π i < ins
  inj : ∀ i k, 0 ≤ i → i < ins → 0 ≤ k → k < ins → π i = π k → i = k
  sur : ∀ k, 0 ≤ k → k < ins → ∃ i, 0 ≤ i ∧ i < ins ∧ π i = k
inductive Eff where
  | put (b : Nat) (n : Int)
  | take (b : Nat) (inst n : Int)
def Eff.at : Eff → Nat
  | .put b _ => b
  | .take b _ _ => b
theorem inL_loc {bin : Int} : ∀ (bs l l' : List Int), (∀ k, bs[k]? = some bin → l.getD k 0 = l'.getD k 0) → inL bin bs l = inL bin bs l'
  | [], _, _, _ => rfl
  | b :: bs, l, l', h => by
    have ih := inL_loc bs l.tail l'.tail fun k hk => by
      have := h (k + 1) (by simpa using hk)
      cases l <;> cases l' <;> simpa using this
    simp only [inL, ih]
    by_cases hb : b = bin
    · have := h 0 (by simp [hb])
      have e : l.headD 0 = l'.headD 0 := by cases l <;> cases l' <;> simpa using this
      rw [e]
    · rw [if_neg hb, if_neg hb]
def Comm (tk : Tk ν) : Prop := ∀ y i b n i' b' n', b ≠ b' → tk (tk y i b n) i' b' n' = tk (tk y i' b' n') i b n
end
theorem comm_none : Comm tkNone := fun _ _ _ _ _ _ _ _ => rfl
theorem comm_amt (i : Int) (b : Nat) : Comm (tkAmt i b) := fun y i1 b1 n1 i2 b2 n2 h => by
  unfold tkAmt
  split <;> split <;> omega
theorem comm_mix (i : Int) : Comm (tkMix i) := fun y i1 b1 n1 i2 b2 n2 h => by
  unfold tkMix
  split <;> split <;> try rfl
  unfold withB
  simp only [Int.toNat_natCast]
  rw [Nat.or_assoc, Nat.or_assoc, Nat.or_comm (1 <<< b1)]
end Go.Batch

namespace Go.Batch
open Go Go.Abs
def keyS (s : Ste Int) : List Int := s.1 ++ [s.2]
def tD : D := .v (.bool true)
structure MapOk (ents : List (List Int × D)) (S : List (Ste Int)) : Prop where
  vals : ∀ e ∈ ents, e.2 = tD
  keys : ∀ k, k ∈ ents.map (·.1) ↔ k ∈ S.map keyS
  nd : (ents.map (·.1)).Nodup
theorem mapOk_nil : MapOk [] [] := ⟨fun _ h => by simp at h, fun _ => by simp, by simp⟩
theorem mput_keys {ents : List (List Int × D)} (k : List Int) : (ar.mput ents k tD).map (·.1) = if k ∈ ents.map (·.1) then ents.map (·.1) else ents.map (·.1) ++ [k] := by
  have e : ar.mput ents k tD = (match ents.findIdx? (·.1 == k) with | some i => ents.set i (k, tD) | none => ents ++ [(k, tD)]) := rfl
  rw [e]
  cases h : ents.findIdx? (·.1 == k) with
  | none =>
    rw [List.findIdx?_eq_none_iff] at h
    rw [if_neg]
    · simp
    · intro hk
      obtain ⟨e, h1, h2⟩ := List.mem_map.1 hk
      have := h e h1
      simp [h2] at this
  | some i =>
    obtain ⟨hi, h1, -⟩ := List.findIdx?_eq_some_iff_getElem.1 h
    have h2 : ents[i].1 = k := by simpa using h1
    rw [if_pos (List.mem_map.2 ⟨ents[i], List.getElem_mem hi, h2⟩)]
    simp only [List.map_set]
    rw [show k = (ents.map (·.1))[i]'(by simpa using hi) by simp [h2]]
    exact List.set_getElem_self _
theorem mput_vals {ents : List (List Int × D)} (k : List Int) (h : ∀ e ∈ ents, e.2 = tD) : ∀ e ∈ ar.mput ents k tD, e.2 = tD := by
  intro e he
  replace he : e ∈ (match ents.findIdx? (·.1 == k) with | some i => ents.set i (k, tD) | none => ents ++ [(k, tD)]) := he
  split at he
  · rcases List.mem_or_eq_of_mem_set he with h1 | h1
    · exact h e h1
    · rw [h1]
  · rcases List.mem_append.1 he with h1 | h1
    · exact h e h1
    · simp at h1; rw [h1]
theorem mapOk_put {ents : List (List Int × D)} {S : List (Ste Int)} (h : MapOk ents S) (s : Ste Int) : MapOk (ar.mput ents (keyS s) tD) (S ++ [s]) := by
  refine ⟨mput_vals _ h.vals, fun k => ?_, ?_⟩
  · rw [mput_keys, List.map_append, List.mem_append]
    have := h.keys k
    split
    · rename_i hk
      have h2 := h.keys (keyS s)
      constructor
      · intro e; exact .inl (this.1 e)
      · rintro (e | e)
        · exact this.2 e
        · simp at e; rw [e]; exact hk
    · rw [List.mem_append, this]; simp
  · rw [mput_keys]
    split
    · exact h.nd
    · rename_i hk
      rw [List.nodup_append]
      exact ⟨h.nd, by simp, fun a ha b hb => by simp at hb; subst hb; intro e; exact hk (e ▸ ha)⟩
def putAll (ents : List (List Int × D)) (S : List (Ste Int)) : List (List Int × D) := S.foldl (fun e s => ar.mput e (keyS s) tD) ents
theorem putAll_cons (ents : List (List Int × D)) (s : Ste Int) (S : List (Ste Int)) : putAll ents (s :: S) = putAll (ar.mput ents (keyS s) tD) S := rfl
theorem putAll_app (ents : List (List Int × D)) (S S' : List (Ste Int)) : putAll ents (S ++ S') = putAll (putAll ents S) S' := by unfold putAll; rw [List.foldl_append]
theorem mapOk_all {ents : List (List Int × D)} {S : List (Ste Int)} (h : MapOk ents S) : ∀ S' : List (Ste Int), MapOk (putAll ents S') (S ++ S')
  | [] => by simpa [putAll] using h
  | s :: S' => by
    rw [putAll_cons, show S ++ s :: S' = (S ++ [s]) ++ S' by simp]
    exact mapOk_all (mapOk_put h s) S'
theorem MapOk.congr {ents : List (List Int × D)} {S S' : List (Ste Int)} (h : MapOk ents S) (e : ∀ s, s ∈ S ↔ s ∈ S') : MapOk ents S' :=
  ⟨h.vals, fun k => by rw [h.keys]; simp only [List.mem_map, e], h.nd⟩
theorem MapOk.empty {ents : List (List Int × D)} {S : List (Ste Int)} (h : MapOk ents S) : ents = [] ↔ S = [] := by
  constructor
  · intro e; subst e
    cases S with
    | nil => rfl
    | cons s S => have := (h.keys (keyS s)).2 (by simp); simp at this
  · intro e; subst e
    cases ents with
    | nil => rfl
    | cons x l => have := (h.keys x.1).1 (by simp); simp at this
theorem MapOk.at {ents : List (List Int × D)} {S : List (Ste Int)} (h : MapOk ents S) {i : Nat} {e : List Int × D} (he : ents[i]? = some e) : ∃ s ∈ S, e = (keyS s, tD) := by
  have hm := List.mem_of_getElem? he
  obtain ⟨s, hs, hk⟩ := List.mem_map.1 ((h.keys e.1).1 (List.mem_map.2 ⟨e, hm, rfl⟩))
  exact ⟨s, hs, Prod.ext hk.symm (h.vals e hm)⟩
theorem MapOk.has {ents : List (List Int × D)} {S : List (Ste Int)} (h : MapOk ents S) {s : Ste Int} (hs : s ∈ S) : ∃ i : Nat, ents[i]? = some (keyS s, tD) := by
  obtain ⟨e, he, hk⟩ := List.mem_map.1 ((h.keys (keyS s)).2 (List.mem_map.2 ⟨s, hs, rfl⟩))
  obtain ⟨i, hi⟩ := List.mem_iff_getElem?.1 he
  exact ⟨i, by rw [hi]; congr 1; exact Prod.ext hk (h.vals e he)⟩
theorem nodup_lt : ∀ (N : Nat) (l : List Nat), l.Nodup → (∀ x ∈ l, x < N) → l.length ≤ N
  | 0, l, _, h => by
    cases l with
    | nil => exact Nat.le_refl _
    | cons x l => exact absurd (h x (by simp)) (by omega)
  | N + 1, l, hd, h => by
    have h1 := nodup_lt N (l.filter (· ≠ N)) (hd.filter _) (fun x hx => by
      simp at hx
      have := h x hx.1
      omega)
    have h2 : l.length ≤ (l.filter (· ≠ N)).length + 1 := by
      clear h h1
      induction l with
      | nil => simp
      | cons x l ih =>
        rw [List.nodup_cons] at hd
        by_cases hx : x = N
        · subst hx
          have : l.filter (· ≠ x) = l := List.filter_eq_self.2 fun y hy => by
            simp; intro e; subst e; exact hd.1 hy
          have e2 : (l.filter fun y => !decide (y = x)) = l := by simpa using this
          simp [List.filter_cons, e2]
        · have := ih hd.2
          simp [List.filter_cons, hx] at this ⊢
          omega
    omega
def numK (l : List Int) : Nat := (((l.getD 0 0 * 6 + l.getD 1 0) * 6 + l.getD 2 0) * 6 + l.getD 3 0).toNat + 1296 * (l.getD 4 0).toNat
theorem list4I {l : List Int} (h : l.length = 4) : ∃ a b c d, l = [a, b, c, d] := by
  match l, h with
  | [a, b, c, d], _ => exact ⟨a, b, c, d, rfl⟩
theorem MapOk.len {ents : List (List Int × D)} {S : List (Ste Int)} (h : MapOk ents S) (hs : ∀ s ∈ S, LOk s.1 ∧ 0 ≤ s.2 ∧ s.2 ≤ 640) : ents.length ≤ 831000 := by
  have h1 : ∀ k ∈ ents.map (·.1), ∃ s ∈ S, k = keyS s := fun k hk => by
    obtain ⟨s, hs, e⟩ := List.mem_map.1 ((h.keys k).1 hk)
    exact ⟨s, hs, e.symm⟩
  have hb : ∀ k ∈ ents.map (·.1), ∃ a b c d n : Int, k = [a, b, c, d, n] ∧ (0 ≤ a ∧ a ≤ 5) ∧ (0 ≤ b ∧ b ≤ 5) ∧ (0 ≤ c ∧ c ≤ 5) ∧ (0 ≤ d ∧ d ≤ 5) ∧ 0 ≤ n ∧ n ≤ 640 := fun k hk => by
    obtain ⟨s, hm, e⟩ := h1 k hk
    obtain ⟨hl, h0, h6⟩ := hs s hm
    obtain ⟨a, b, c, d, e4⟩ := list4I hl.len
    have hg := hl.lo
    have hh := hl.hi
    rw [e4] at hg hh
    exact ⟨a, b, c, d, s.2, by rw [e, keyS, e4]; rfl, ⟨hg 0, hh 0⟩, ⟨hg 1, hh 1⟩, ⟨hg 2, hh 2⟩, ⟨hg 3, hh 3⟩, h0, h6⟩
  have hlen := nodup_lt 830736 ((ents.map (·.1)).map numK) ?_ ?_
  · simp at hlen; omega
  · refine List.pairwise_map.2 (List.Pairwise.imp_of_mem ?_ h.nd)
    intro k k' hk hk' hne e
    obtain ⟨a, b, c, d, n, rfl, p1, p2, p3, p4, p5⟩ := hb k hk
    obtain ⟨a', b', c', d', n', rfl, q1, q2, q3, q4, q5⟩ := hb k' hk'
    apply hne
    simp [numK] at e
    have : a = a' ∧ b = b' ∧ c = c' ∧ d = d' ∧ n = n' := by omega
    obtain ⟨rfl, rfl, rfl, rfl, rfl⟩ := this
    rfl
  · intro x hx
    obtain ⟨k, hk, rfl⟩ := List.mem_map.1 hx
    obtain ⟨a, b, c, d, n, rfl, p1, p2, p3, p4, p5⟩ := hb k hk
    simp [numK]
    omega
theorem keyS_inj {s s' : Ste Int} (h : keyS s = keyS s') : s = s' := by
  unfold keyS at h
  obtain ⟨h1, h2⟩ := List.append_inj' h rfl
  simp at h2
  exact Prod.ext h1 h2
structure Seen (ents : List (List Int × D)) (bs seen : List Nat) (S done : List (Ste Int)) : Prop where
  inS : ∀ s ∈ done, s ∈ S
  got : ∀ (i c : Nat) (s : Ste Int), bs[i]? = some c → c ∈ seen → ents[i]? = some (keyS s, tD) → s ∈ done
theorem seen_nil (ents : List (List Int × D)) (bs : List Nat) (S : List (Ste Int)) : Seen ents bs [] S [] := ⟨fun _ h => by simp at h, fun _ _ _ _ h => by simp at h⟩
theorem Seen.next {ents : List (List Int × D)} {bs seen : List Nat} {S done : List (Ste Int)} (h : Seen ents bs seen S done) (hd : bs.Nodup) {i c : Nat} {s : Ste Int} (hc : bs[i]? = some c) (he : ents[i]? = some (keyS s, tD)) (hs : s ∈ S) :
    Seen ents bs (seen ++ [c]) S (done ++ [s]) := by
  refine ⟨fun x hx => ?_, fun i' c' s' h1 h2 h3 => ?_⟩
  · rcases List.mem_append.1 hx with h1 | h1
    · exact h.inS x h1
    · simp at h1; rw [h1]; exact hs
  · rcases List.mem_append.1 h2 with h4 | h4
    · exact List.mem_append.2 (.inl (h.got i' c' s' h1 h4 h3))
    · simp at h4; subst h4
      have hi : i = i' := by
        obtain ⟨a1, a2⟩ := List.getElem?_eq_some_iff.1 hc
        obtain ⟨b1, b2⟩ := List.getElem?_eq_some_iff.1 h1
        exact (List.getElem?_inj a1 hd).1 (hc.trans h1.symm)
      subst hi
      rw [he] at h3
      have : keyS s = keyS s' := by injection h3 with h5; exact congrArg Prod.fst h5
      rw [keyS_inj this]; simp
theorem Seen.all {ents : List (List Int × D)} {bs seen : List Nat} {S done : List (Ste Int)} (h : Seen ents bs seen S done) (hm : MapOk ents S) (hl : bs.length = ents.length) (hall : ∀ c ∈ bs, c ∈ seen) : ∀ s, s ∈ done ↔ s ∈ S := fun s => by
  refine ⟨h.inS s, fun hs => ?_⟩
  obtain ⟨i, hi⟩ := hm.has hs
  have hlt : i < bs.length := by rw [hl]; exact (List.getElem?_eq_some_iff.1 hi).1
  exact h.got i bs[i] s (List.getElem?_eq_getElem hlt) (hall _ (List.getElem_mem hlt)) hi
def unmet (bs seen : List Nat) : Nat := (bs.filter fun c => decide (c ∉ seen)).length
theorem unmet_lt {bs seen : List Nat} {i c : Nat} (hc : bs[i]? = some c) (hn : c ∉ seen) : unmet bs (seen ++ [c]) < unmet bs seen := by
  have hm : c ∈ bs := List.mem_of_getElem? hc
  unfold unmet
  clear hc
  induction bs with
  | nil => simp at hm
  | cons x bs ih =>
    have le : ∀ l : List Nat, (l.filter fun y => decide (y ∉ seen ++ [c])).length ≤ (l.filter fun y => decide (y ∉ seen)).length := fun l => by
      induction l with
      | nil => simp
      | cons y l ih2 =>
        simp only [List.filter_cons]
        by_cases h1 : y ∈ seen
        · have : y ∈ seen ++ [c] := by simp [h1]
          simpa [h1, this] using ih2
        · by_cases h2 : y ∈ seen ++ [c]
          · simp [h1, h2]; simp at ih2; omega
          · simp [h1, h2]; simpa using ih2
    by_cases hx : x = c
    · subst hx
      have := le bs
      simp [List.filter_cons, hn] at this ⊢
      omega
    · rcases List.mem_cons.1 hm with h1 | h1
      · exact absurd h1.symm hx
      · have h2 := ih h1
        simp only [List.filter_cons]
        by_cases h3 : x ∈ seen
        · have : x ∈ seen ++ [c] := by simp [h3]
          simpa [h3, this] using h2
        · have : x ∉ seen ++ [c] := by simp [h3, hx]
          simpa [h3, this] using h2
theorem range_seen {S done : List (Ste Int)} (h : ∀ s, s ∈ done ↔ s ∈ S) (f : Ste Int → Int) : rangeI (done.map f) = rangeI (S.map f) := rangeI_congr fun x => by simp only [List.mem_map, h]
end Go.Batch

namespace Go.Batch
theorem stands_of {j : Jn} {x : Ste (List (Int × Nat × Int))} (h : x ∈ endsS j tkAll []) : standsJ j = true := by
  unfold standsJ
  rw [endsS_all tkNone]
  cases he : endsS j tkAll [] with
  | nil => rw [he] at h; simp at h
  | cons a l => rfl
theorem stands_ne {j : Jn} (h : standsJ j = true) (tk : Tk Int) : endsS j tk 0 ≠ [] := by
  unfold standsJ at h
  rw [endsS_all tkNone] at h
  rw [endsS_all tk]
  cases he : endsS j tkAll [] with
  | nil => rw [he] at h; simp at h
  | cons a l => simp
end Go.Batch

/- Part TyAB of the proofs about the benches of the accordion maker: see the last text of the claim for what is proved. -/
import Derived.Test.YthljpccegkmdnaaGreatDoorTyAA
set_option linter.unusedVariables false
set_option linter.unusedSimpArgs false
set_option linter.unnecessarySimpa false
set_option linter.constructorNameAsVariable false

namespace Go.Abs
open Go
abbrev Fc (r : Option Nat) : Fence := { fn := fun _ => True, depth := none, alive := false, round := r }
theorem Zu5 (r : Option Nat) (n : Nat) : (Fc r).room n := fun _ h => by cases h
inductive AX where
 | normal
 | exit (id : Nat)
 | ret
 | goto (l : Nat)
 | pan (d : D)
def XR (F : Fz) (μ : Mu) : Exit -> AX -> Prop
 | .normal, .normal => True
 | .exit i, .exit j => i = j
 | .ret, .ret => True
 | .goto i, .goto j => i = j
 | .panic ch, .pan d => ∃ v, ch = [{ v := v, recovered := false }] /\ VR F μ d v
 | _, _ => False
def Z4f (F : Fz) (μ : Mu) (H : List Blk) (w : World) (m : Nat) (Q : AX -> St -> Prop) (e : Exit) (a' : Act) (w' : World) : Prop :=
 ∃ F' μ' s' x, Post F μ H w F' μ' s'.H w' /\ Kp m μ H μ' s'.H /\ RL m F' μ' s' a' w' /\ XR F' μ' e x /\ Q x s'
structure WpA (P : Program) (r : Option Nat) (m : Nat) (c : Code) (Q : AX -> St -> Prop) (s : St) : Prop where
 out : ∀ F μ a w, RL m F μ s a w -> c.wpIn (Fc r) 0 P (Z4f F μ s.H w m Q) a w
section
variable {P : Program} {r : Option Nat} {m : Nat} {Q Q' : AX -> St -> Prop} {s : St}
theorem Z4f.mono {F : Fz} {μ : Mu} {H : List Blk} {w : World} {e : Exit} {a' : Act} {w' : World} (h : Z4f F μ H w m Q e a' w') (hq : ∀ x s, Q x s -> Q' x s) : Z4f F μ H w m Q' e a' w' := by
 obtain ⟨F', μ', s', x, h1, h2, h3, h4, h5⟩ := h;exact ⟨F', μ', s', x, h1, h2, h3, h4, hq _ _ h5⟩
theorem Z4f.trans {F F' : Fz} {μ μ' : Mu} {H H' : List Blk} {w w' : World} {e : Exit} {a'' : Act} {w'' : World} (h0 : Post F μ H w F' μ' H' w') (hm : Kp m μ H μ' H')
  (h : Z4f F' μ' H' w' m Q e a'' w'') : Z4f F μ H w m Q e a'' w'' := by
 obtain ⟨F'', μ'', s', x, h1, h2, h3, h4, h5⟩ := h;exact ⟨F'', μ'', s', x, h0.trans h1, hm.trans h2, h3, h4, h5⟩
theorem Z4f.here {F : Fz} {μ : Mu} {w : World} {e : Exit} {a : Act} {x : AX} (h1 : RL m F μ s a w) (h3 : XR F μ e x) (h4 : Q x s) : Z4f F μ s.H w m Q e a w :=
 ⟨F, μ, s, x, Post.refl _ _ _ _, .refl _ _ _, h1, h3, h4⟩
theorem Z94 {c : Code} (h : WpA P r m c Q s) (hq : ∀ x s, Q x s -> Q' x s) : WpA P r m c Q' s :=
 ⟨fun F μ a w h1 => wpIn_mono (h.out F μ a w h1) fun _ _ _ h => h.mono hq⟩
def Zb1 (K : St -> Prop) (Q : AX -> St -> Prop) : AX -> St -> Prop
 | .normal, s => K s
 | x, s => Q x s
def Zi3 (id : Nat) (Q : AX -> St -> Prop) : AX -> St -> Prop
 | .exit id', s => if id' = id then Q .normal s else Q (.exit id') s
 | x, s => Q x s
theorem Z4f.thenA {F : Fz} {μ : Mu} {H : List Blk} {w : World} {K : St -> Prop} {next : Act -> World -> Prop} {e : Exit} {a : Act} {w' : World}
  (h : Z4f F μ H w m (Zb1 K Q) e a w') (hn : ∀ F' μ' s', Post F μ H w F' μ' s'.H w' -> Kp m μ H μ' s'.H -> RL m F' μ' s' a w' -> K s' -> next a w') :
  Exit.then next (Z4f F μ H w m Q) e a w' := by
 obtain ⟨F', μ', s', x, h1, h2, h3, h5, h6⟩ := h
 cases e <;> cases x <;> try exact h5.elim
 ·exact hn F' μ' s' h1 h2 h3 h6
 all_goals exact ⟨F', μ', s', _, h1, h2, h3, h5, h6⟩
theorem Znq {x y : Code} (h : WpA P r m x (Zb1 (WpA P r m y Q) Q) s) : WpA P r m (.seq x y) Q s :=
 ⟨fun F μ a w h1 => wpIn_seq (wpIn_mono (h.out F μ a w h1) fun _ _ _ hp => hp.thenA fun F' μ' _ p1 p2 p3 p5 =>
  wpIn_mono (p5.out F' μ' _ _ p3) fun _ _ _ hq => hq.trans p1 p2)⟩
theorem Zje (h : Q .normal s) : WpA P r m .skip Q s := ⟨fun _ _ _ _ h1 => wpIn_skip (.here h1 (x := .normal) trivial h)⟩
theorem Zgi {l : Nat} (h : Q .normal s) : WpA P r m (.label l) Q s := ⟨fun _ _ _ _ h1 => wpIn_label (.here h1 (x := .normal) trivial h)⟩
theorem Znr (h : Q .ret s) : WpA P r m .ret Q s := ⟨fun _ _ _ _ h1 => wpIn_ret (.here h1 (x := .ret) trivial h)⟩
theorem Zjf {id : Nat} (h : Q (.exit id) s) : WpA P r m (.exit id) Q s := ⟨fun _ _ _ _ h1 => wpIn_exit (.here h1 (x := .exit id) rfl h)⟩
theorem Zgj {id : Nat} {c : Code} (h : WpA P r m c (Zi3 id Q) s) : WpA P r m (.block id c) Q s :=
 ⟨fun F μ a w h1 => wpIn_block (wpIn_mono (h.out F μ a w h1) fun e a' w' hp => by
  obtain ⟨F', μ', s', x, p1, p2, p3, p5, p6⟩ := hp
  cases e <;> cases x <;> try exact p5.elim
  case exit.exit i j =>
   obtain rfl : i = j := p5
   simp only [Exit.inBlock]
   simp only [Zi3] at p6
   split
   ·rename_i hi; rw [if_pos hi] at p6; exact ⟨F', μ', s', .normal, p1, p2, p3, trivial, p6⟩
   ·rename_i hi; rw [if_neg hi] at p6; exact ⟨F', μ', s', .exit i, p1, p2, p3, rfl, p6⟩
  all_goals exact ⟨F', μ', s', _, p1, p2, p3, p5, p6⟩)⟩
def ofV : Value -> D
 | .agg cs => if cs.all (·.oneCell') then .agg (cs.toList.map .v) else .any
 | .tuple _ => .any
 | x => .v x
def evo (env : List (Nat × D)) : Operand -> Option D
 | .tmp t => Z1c env t
 | .const v => some (ofV v)
 | .global g => some (.v (.pointer (some ⟨g, 0, none⟩)))
 | .func f => some (.fn f [])
theorem CR.ofV {F : Fz} (v : Value) : CR F (ofV v) v := by
 cases v
 case agg cs =>
  show CR F (if cs.all (·.oneCell') then D.agg (cs.toList.map D.v) else D.any) (.agg cs)
  split
  ·rename_i hall
   have hone : ∀ (i : Nat) (v : Value), cs[i]? = some v -> v.oneCell' = true := fun i v hv => by
    obtain ⟨hi, rfl⟩ := Array.getElem?_eq_some_iff.1 hv;exact (Array.all_eq_true.1 hall) i hi
   refine .agg _ _ (by simp) (fun i c v h1 h2 => ?_) hone;simp only [List.getElem?_map, Option.map_eq_some_iff] at h1;obtain ⟨x, hx, rfl⟩ := h1;rw [Array.getElem?_toList] at hx;obtain rfl := Option.some.inj (hx.symm.trans h2);exact .v _ (hone i _ h2)
  ·exact .any _
 case tuple cs => exact .any _
 all_goals exact .v _ rfl
theorem ER.evo {F : Fz} {μ : Mu} {a : Act} (h : ER F μ s a) {x : Operand} {d : D} (hd : evo s.env x = some d) : VR F μ d (a.eval x) := by
 cases x with
 | tmp t =>
  obtain ⟨v, h1, h2⟩ := h.env t d hd;simp only [Act.eval, Array.getD_eq_getD_getElem?, h1, Option.getD_some];exact h2
 | const v => obtain rfl := Option.some.inj hd; exact .cl _ _ (CR.ofV v)
 | global g => obtain rfl := Option.some.inj hd; exact .cl _ _ (.v _ rfl)
 | func f => obtain rfl := Option.some.inj hd; exact .cl _ _ (.fn f [] #[] rfl (fun i c v h => by simp at h))
theorem VR.bool {F : Fz} {μ : Mu} {t : Bool} {v : Value} (h : VR F μ (.v (.bool t)) v) : v = .bool t := by
 cases h with | cl _ _ h => cases h; rfl
theorem VR.v_inv {F : Fz} {μ : Mu} {x v : Value} (h : VR F μ (.v x) v) : v = x := by
 cases h with | cl _ _ h => cases h; rfl
theorem Zjg {c : Operand} {x y : Code} {t : Bool} (hc : evo s.env c = some (.v (.bool t))) (ht : t = true -> WpA P r m x Q s) (hf : t = false -> WpA P r m y Q s) : WpA P r m (.cond c x y) Q s :=
 ⟨fun F μ a w h1 => wpIn_cond_split (h1.er.evo hc).bool (fun h => (ht h).out F μ a w h1) (fun h => (hf h).out F μ a w h1)⟩
theorem Za7 {p : Nat -> Prop} (h : ∃ n, p n) : ∃ n, p n /\ ∀ k, p k -> n <= k := by
 obtain ⟨n, hn⟩ := h
 induction n using Nat.strongRecOn with
 | _ n ih =>
  by_cases hk : ∃ k, k < n /\ p k
  ·obtain ⟨k, hk, hp⟩ := hk; exact ih k hk hp
  ·exact ⟨n, hn, fun k hp => Nat.le_of_not_lt fun hlt => hk ⟨k, hlt, hp⟩⟩
theorem Zjh {c : Code} (I : St -> Prop) (ms : St -> Nat) (h0 : I s)
  (round : ∀ s, I s -> WpA P r m c (Zb1 (fun s' => I s' /\ ms s' < ms s) Q) s) : WpA P r m (.loop c) Q s := by
 refine ⟨fun F μ a w h1 => ?_⟩
 let Inv : Nat -> Act -> World -> Prop := fun n a' w' => ∃ F' μ' s', Post F μ s.H w F' μ' s'.H w' /\ Kp m μ s.H μ' s'.H /\ RL m F' μ' s' a' w' /\ I s' /\ ms s' = n
 have hch : ∀ a' w', (∃ n, Inv n a' w') -> ∃ n, Inv n a' w' /\ ∀ k, Inv k a' w' -> n <= k := fun a' w' h => Za7 h
 let μm : Act -> World -> Nat := fun a' w' => Classical.epsilon fun n => Inv n a' w' /\ ∀ k, Inv k a' w' -> n <= k
 have hμ : ∀ a' w', (∃ n, Inv n a' w') -> Inv (μm a' w') a' w' /\ ∀ k, Inv k a' w' -> μm a' w' <= k := fun a' w' h => Classical.epsilon_spec (hch a' w' h);refine wpIn_loop (fun a' w' => ∃ n, Inv n a' w') μm ⟨_, F, μ, s, Post.refl _ _ _ _, .refl _ _ _, h1, h0, rfl⟩ fun a' w' hI => ?_;obtain ⟨⟨F', μ', s', p1, p2, p3, p5, p6⟩, -⟩ := hμ a' w' hI;refine wpIn_mono ((round s' p5).out F' μ' a' w' p3) fun e a2 w2 hp => ?_;have := hp.trans p1 p2;refine this.thenA fun F2 μ2 s2 q1 q2 q3 q5 => ?_;have hi2 : Inv (ms s2) a2 w2 := ⟨F2, μ2, s2, q1, q2, q3, q5.1, rfl⟩;exact ⟨⟨_, hi2⟩, by have := (hμ a2 w2 ⟨_, hi2⟩).2 _ hi2; have := q5.2; omega⟩
end
end Go.Abs

namespace Go.Abs
open Go
def setB (H : List Blk) (k : Nat) (x : Blk) : List Blk := if k < H.length then H.set k x else H ++ [x]
def Z4v (μ : Mu) (k : Nat) (x : Option (Nat × Nat)) : Mu := ⟨fun j => if j = k then some x else μ j, μ.inn⟩
theorem Z6h (μ : Mu) (k : Nat) (x : Option (Nat × Nat)) : Z4v μ k x k = some x := by show (if k = k then some x else μ k) = some x; rw [if_pos rfl]
theorem Z2k {μ : Mu} {k j : Nat} (x : Option (Nat × Nat)) (h : j ≠ k) : Z4v μ k x j = μ j := by show (if j = k then some x else μ j) = μ j; rw [if_neg h]
theorem Z2m {H : List Blk} {k : Nat} (x : Blk) (hk : k <= H.length) (j : Nat) : (setB H k x)[j]? = if j = k then some x else H[j]? := by
 unfold setB
 split
 ·rename_i h; rw [List.getElem?_set]
  by_cases hj : k = j
  ·subst hj; simp [h]
  ·rw [if_neg hj, if_neg (fun e => hj e.symm)]
 ·rename_i h
  obtain rfl : k = H.length := by omega
  by_cases hj : j = H.length
  ·subst hj; simp
  ·rw [if_neg hj]
   by_cases hlt : j < H.length
   ·rw [List.getElem?_append_left hlt]
   ·rw [List.getElem?_append_right (by omega), List.getElem?_eq_none (by omega : H.length <= j)];have : j - H.length = (j - H.length - 1) + 1 := by omega
    rw [this]; simp
theorem Z7b {H : List Blk} {k : Nat} (x : Blk) : H.length <= (setB H k x).length /\ (setB H k x).length <= max H.length (H.length + 1) := by
 unfold setB; split <;> simp <;> omega
theorem Zbz {H : List Blk} {k : Nat} (x : Blk) (hk : k <= H.length) (j : Nat) : Z17 (setB H k x) j = if j = k then x.es else Z17 H j := by
 unfold Z17; rw [Z2m x hk]; split <;> rfl
theorem Zu6 {H : List Blk} {k : Nat} (x : Blk) (hk : k < H.length) (j : Nat) : Z17 (H.set k x) j = if j = k then x.es else Z17 H j := by
 have := Zbz x (Nat.le_of_lt hk) j
 rwa [setB, if_pos hk] at this
theorem Z7k {H : List Blk} {k : Nat} {y : Nat × List D} (h : Z17 H k = some y) : k < H.length := by
 unfold Z17 at h;obtain ⟨x, hx, -⟩ := Option.bind_eq_some_iff.1 h;exact (List.getElem?_eq_some_iff.1 hx).1
theorem Zep {H : List Blk} {k : Nat} (x : Blk) (hk : k <= H.length) (j : Nat) : Z13 (setB H k x) j = if j = k then x.obj else Z13 H j := by
 unfold Z13; rw [Z2m x hk]; split <;> rfl
theorem Zi4 {H : List Blk} {k : Nat} (x : Blk) (h : k <= H.length) : k < (setB H k x).length := by
 unfold setB; split
 ·simpa
 ·simp; omega
theorem Z1s {H : List Blk} {k : Nat} {x : Blk} (h : H[k]? = some x) : Z17 H k = x.es := by unfold Z17; rw [h]; rfl
theorem Z19 {H : List Blk} {k : Nat} {x : Blk} (h : H[k]? = some x) : Z13 H k = x.obj := by unfold Z13; rw [h]; rfl
theorem Z6x {H : List Blk} {k : Nat} {x : Blk} (h : H[k]? = some x) : Z20 H k = x.live := by unfold Z20; rw [h]; rfl
theorem HR.congr {F : Fz} {μ : Mu} {H : List Blk} {w w' : World} (h : HR F μ H w) (e : w'.heap = w.heap) : HR F μ H w' :=
 ⟨h.dom, fun k sz es hk => by rw [e]; exact h.row k sz es hk, h.plain, fun k x hx hn => by
  have := h.obj k x hx hn
  cases x <;> simpa only [OBR, e] using this, h.non, h.inj, fun b hb => by rw [e]; exact h.lt b hb, fun b o v hv => ⟨by rw [World.cell?_of_block (w := w) (by rw [e])]; exact (h.frz b o v hv).1, (h.frz b o v hv).2⟩, h.fr, fun b p hp => by rw [e]; exact h.kb b p hp⟩
theorem Post.congr {F F' : Fz} {μ μ' : Mu} {H H' : List Blk} {w w' w2 : World} (h : Post F μ H w F' μ' H' w') (e : w2.heap = w'.heap) (e1 : w2.tape = w'.tape) (e2 : w2.os = w'.os) (e3 : w2.output = w'.output) : Post F μ H w F' μ' H' w2 :=
 ⟨h.mono, h.back, by rw [e]; exact h.size, e1.trans h.tape, e2.trans h.os, e3.trans h.output, fun b hb ho => by rw [e]; exact h.keep b hb ho⟩
theorem HR.block_lt {F : Fz} {μ : Mu} {H : List Blk} {w : World} (h : HR F μ H w) {b : Nat} (ho : Own μ H b) : b < w.heap.size := h.lt b ho
theorem OBR.frame {F F' : Fz} {μ μ' : Mu} {k : Nat} {w w' : World} {x : OB} (h : OBR F μ k w x) (hF : ∀ b o v, F b o = some v -> F' b o = some v) (hμ : ∀ j y, μ j = some y -> μ' j = some y) (hi : ∀ b, μ'.inn k b ↔ μ.inn k b)
  (hw : ∀ b, Z40 μ k b -> w'.heap[b]? = w.heap[b]?) : OBR F' μ' k w' x := by
 have hn : (∀ c, ¬ μ.inn k c) -> ∀ c, ¬ μ'.inn k c := fun h c hc => h c ((hi c).1 hc)
 cases x with
 | mp kn ents =>
  obtain ⟨b, es, clock, h1, h2, h3, h4, h5, h6, h7⟩ := h;exact ⟨b, es, clock, hμ _ _ h1, by rw [hw b (.inl ⟨_, h1⟩)]; exact h2, h3, h4, h5, fun i e x a c => ⟨(h6 i e x a c).1, (h6 i e x a c).2.1, (h6 i e x a c).2.2.mono hF⟩, hn h7⟩
 | mpx kn ents bs clock =>
  obtain ⟨b, es, h1, h2, h3, h4, h5, h5', h6, h7⟩ := h;exact ⟨b, es, hμ _ _ h1, by rw [hw b (.inl ⟨_, h1⟩)]; exact h2, h3, h4, h5, h5', fun i e x a c => ⟨(h6 i e x a c).1, (h6 i e x a c).2.1, (h6 i e x a c).2.2.mono hF⟩, hn h7⟩
 | mi k' since seen stepped =>
  obtain ⟨b, bm, m, h1, h2, h3, h7⟩ := h;exact ⟨b, bm, m, hμ _ _ h1, hμ _ _ h2, by rw [hw b (.inl ⟨_, h1⟩)]; exact h3, hn h7⟩
 | lp st pend env nt params assign body =>
  obtain ⟨b, r, h1, h2, h3, h4, h5, h6, h8, h9, h10, h7⟩ := h;exact ⟨b, r, hμ _ _ h1, by rw [hw b (.inl ⟨_, h1⟩)]; exact h2, h3, h4, h5, h6, h8, h9, fun t d ht => let ⟨v, g1, g2⟩ := h10 t d ht; ⟨v, g1, g2.mono hF hμ⟩, hn h7⟩
 | gr sz ents =>
  obtain ⟨h1, loc, h2, h3⟩ := h;refine ⟨hμ _ _ h1, loc, fun j e row he => ?_, h3⟩;obtain ⟨c, t, cap, g1, g2, g3, g4, g5, g6, g7⟩ := h2 j e row he;exact ⟨c, t, cap, g1, g2, g3, by rw [hw _ (.inr g7)]; exact g4, g5.mono hF hμ, g6, (hi _).2 g7⟩
 | si s pos =>
  obtain ⟨b, h1, h3, h7⟩ := h;exact ⟨b, hμ _ _ h1, by rw [hw b (.inl ⟨_, h1⟩)]; exact h3, hn h7⟩
 | mk =>
  exact ⟨hμ _ _ h.1, fun c hc => by rw [hw c (.inr ((hi c).1 hc))]; exact h.2 c ((hi c).1 hc)⟩
theorem Z5e {F : Fz} {μ μ' : Mu} {H H' : List Blk} {w w' : World} (C : Nat -> Prop) (h : HR F μ H w) (hl : H.length <= H'.length) (hH : ∀ j, ¬ C j -> H'[j]? = H[j]?) (hμ : ∀ j, ¬ C j -> μ' j = μ j) (hi : ∀ j b, ¬ C j -> (μ'.inn j b ↔ μ.inn j b))
  (hup : ∀ j, C j -> ∀ y, μ j = some y -> μ' j = some y) (hsz : w.heap.size <= w'.heap.size) (e1 : w'.tape = w.tape) (e2 : w'.os = w.os) (e3 : w'.output = w.output)
  (hheap : ∀ b, b < w.heap.size -> (∀ k, C k -> Z20 H k = true -> ¬ Z40 μ k b) -> w'.heap[b]? = w.heap[b]?)
  (hfoot : ∀ k b, C k -> Z20 H' k = true -> Z40 μ' k b -> (∃ j, C j /\ Z20 H j = true /\ Z40 μ j b) ∨ (w.heap.size <= b /\ b < w'.heap.size))
  (hinj : ∀ k k' b, C k -> C k' -> Z20 H' k = true -> Z20 H' k' = true -> Z40 μ' k b -> Z40 μ' k' b -> k = k')
  (hdom : ∀ k, C k -> H'.length <= k -> μ' k = none)
  (hrow : (∀ j y, μ j = some y -> μ' j = some y) -> ∀ k sz es, C k -> Z17 H' k = some (sz, es) -> μ' k ≠ none -> (μ' k = some none /\ es = []) ∨ ∃ b m c t, μ' k = some (some (b, m)) /\ w'.heap[b]? = some (.cells c t (0, 0)) /\ c.size = m /\ es.length * sz <= m /\ Z1l F μ' sz es c)
  (hplain : ∀ k y, C k -> Z17 H' k = some y -> ∀ b, ¬ μ'.inn k b)
  (hobj : (∀ j y, μ j = some y -> μ' j = some y) -> ∀ k x, C k -> Z13 H' k = some x -> x.nv (μ' k) -> OBR F μ' k w' x)
  (hnon : ∀ k, C k -> μ' k = none -> ∀ b, ¬ μ'.inn k b) (hbf : ∀ k x, C k -> H'[k]? = some x -> BFr x) :
  HR F μ' H' w' /\ Post F μ H w F μ' H' w' /\ ∀ j y, μ j = some y -> μ' j = some y := by
 have hmono : ∀ j y, μ j = some y -> μ' j = some y := fun j y hj => by
  by_cases hc : C j
  ·exact hup j hc y hj
  ·rw [hμ j hc]; exact hj
 have hb : ∀ j, ¬ C j -> Z17 H' j = Z17 H j := fun j hj => by unfold Z17; rw [hH j hj]
 have ho : ∀ j, ¬ C j -> Z13 H' j = Z13 H j := fun j hj => by unfold Z13; rw [hH j hj]
 have hv : ∀ j, ¬ C j -> Z20 H' j = Z20 H j := fun j hj => by unfold Z20; rw [hH j hj]
 have hf : ∀ j b, ¬ C j -> (Z40 μ' j b ↔ Z40 μ j b) := fun j b hj => by unfold Z40; rw [hμ j hj, hi j b hj]
 have hpo : ∀ j b, ¬ C j -> Z20 H j = true -> Z40 μ j b -> b < w.heap.size /\ w'.heap[b]? = w.heap[b]? := fun j b hj hl hfo => by
  have hlt := h.lt b ⟨j, hl, hfo⟩;exact ⟨hlt, hheap b hlt fun k hc hk hfk => hj (h.inj k j b hk hl hfk hfo ▸ hc)⟩
 have hown : ∀ b, Own μ' H' b -> Own μ H b ∨ (w.heap.size <= b /\ b < w'.heap.size) := fun b ⟨j, g1, g2⟩ => by
  by_cases hc : C j
  ·rcases hfoot j b hc g1 g2 with ⟨j', -, g3, g4⟩ | g
   ·exact .inl ⟨j', g3, g4⟩
   ·exact .inr g
  ·exact .inl ⟨j, by rw [<- hv j hc]; exact g1, (hf j b hc).1 g2⟩
 refine ⟨⟨fun k hk => ?_, fun k sz es hk hne => ?_, fun k y hk => ?_, fun k x hk hne => ?_, fun k hk => ?_, fun k k' b hk hk' g g' => ?_, fun b hb => ?_, fun b o v hv => ?_, fun k x hk => ?_, fun b p hp => ?_⟩,
  ⟨fun _ _ _ e => e, fun _ _ _ e => .inl e, hsz, e1, e2, e3, fun b hb ho => ⟨hheap b hb fun k _ hk hfo => ho ⟨k, hk, hfo⟩, fun ho' => ?_⟩⟩, hmono⟩
 ·by_cases hc : C k
  ·exact hdom k hc hk
  ·rw [hμ k hc]; exact h.dom k (Nat.le_trans hl hk)
 ·by_cases hc : C k
  ·exact hrow hmono k sz es hc hk hne
  ·rw [hb k hc] at hk;rw [hμ k hc] at hne ⊢;rcases h.row k sz es hk hne with hnil | ⟨b, m, c, t, a1, a2, a3, a4, a5⟩
   ·exact .inl hnil
   ·exact .inr ⟨b, m, c, t, a1, by rw [(hpo k b hc (Z15 hk) (.inl ⟨m, a1⟩)).2]; exact a2, a3, a4, a5.mono (fun _ _ _ e => e) hmono⟩
 ·by_cases hc : C k
  ·exact hplain k y hc hk
  ·rw [hb k hc] at hk;exact fun b hb => h.plain k y hk b ((hi k b hc).1 hb)
 ·by_cases hc : C k
  ·exact hobj hmono k x hc hk hne
  ·rw [ho k hc] at hk;rw [hμ k hc] at hne;exact (h.obj k x hk hne).frame (fun _ _ _ e => e) hmono (fun b => hi k b hc) (fun b hb => (hpo k b hc (Z2j hk) hb).2)
 ·by_cases hc : C k
  ·exact hnon k hc hk
  ·rw [hμ k hc] at hk;exact fun b hb => h.non k hk b ((hi k b hc).1 hb)
 ·by_cases hc : C k <;> by_cases hc' : C k'
  ·exact hinj k k' b hc hc' hk hk' g g'
  ·exfalso
   rw [hv k' hc'] at hk';have g2 := (hf k' b hc').1 g';rcases hfoot k b hc hk g with ⟨j, a1, a2, a3⟩ | ⟨a1, -⟩
   ·exact hc' (h.inj j k' b a2 hk' a3 g2 ▸ a1)
   ·have := h.lt b ⟨k', hk', g2⟩; omega
  ·exfalso
   rw [hv k hc] at hk;have g2 := (hf k b hc).1 g;rcases hfoot k' b hc' hk' g' with ⟨j, a1, a2, a3⟩ | ⟨a1, -⟩
   ·exact hc (h.inj j k b a2 hk a3 g2 ▸ a1)
   ·have := h.lt b ⟨k, hk, g2⟩; omega
  ·exact h.inj k k' b (by rw [<- hv k hc]; exact hk) (by rw [<- hv k' hc']; exact hk') ((hf k b hc).1 g) ((hf k' b hc').1 g')
 ·rcases hown b hb with ho | ⟨-, ho⟩
  ·exact Nat.lt_of_lt_of_le (h.lt b ho) hsz
  ·exact ho
 ·obtain ⟨hcell, hno⟩ := h.frz b o v hv;have hlt : b < w.heap.size := World.block_lt_of_cell? _ _ hcell;refine ⟨by rw [World.cell?_of_block (w := w) (hheap b hlt fun k _ hk hfo => hno ⟨k, hk, hfo⟩)]; exact hcell, fun ho' => ?_⟩;rcases hown b ho' with g | ⟨g, -⟩
  ·exact hno g
  ·omega
 ·by_cases hc : C k
  ·exact hbf k x hc hk
  ·rw [hH k hc] at hk; exact h.fr k x hk
 ·obtain ⟨⟨ob, hob, hp2⟩, hno⟩ := h.kb b p hp;have hlt : b < w.heap.size := (Array.getElem?_eq_some_iff.1 hob).1;refine ⟨⟨ob, by rw [hheap b hlt fun k _ hk hfo => hno ⟨k, hk, hfo⟩]; exact hob, hp2⟩, fun ho' => ?_⟩;rcases hown b ho' with g | ⟨g, -⟩
  ·exact hno g
  ·omega
 ·rcases hown b ho' with g | ⟨g, -⟩
  ·exact ho g
  ·omega
theorem Zji {F : Fz} {μ : Mu} {H : List Blk} {w : World} (h : HR F μ H w) {k : Nat} (hn : μ k = none) (hle : k <= H.length) {x : Blk} (hbf : BFr x) {sz : Nat} {es : List D} (hes : x.es = some (sz, es))
  {c : Array Value} (hc : Z1l F μ sz es c) (hsz : es.length * sz <= c.size) (t : TypeId) :
  HR F (Z4v μ k (some (w.heap.size, c.size))) (setB H k x) (w.alloc (.cells c t)) /\ Post F μ H w F (Z4v μ k (some (w.heap.size, c.size))) (setB H k x) (w.alloc (.cells c t)) /\
   (∀ j y, μ j = some y -> Z4v μ k (some (w.heap.size, c.size)) j = some y) := by
 have hat := Z6h μ k (some (w.heap.size, c.size));have hnob : ∀ y, Z13 (setB H k x) k = some y -> False := fun y hy => by
  rw [Zep x hle, if_pos rfl] at hy
  cases x <;> simp [Blk.es, Blk.obj] at hes hy
 have hfk : ∀ b, Z40 (Z4v μ k (some (w.heap.size, c.size))) k b -> b = w.heap.size := fun b hb => by
  rcases hb with ⟨m, hm⟩ | hb
  ·rw [hat] at hm; cases hm; rfl
  ·exact absurd hb (h.non k hn b)
 refine Z5e (fun j => j = k) h (Z7b x).1 (fun j hj => by rw [Z2m x hle, if_neg hj]) (fun j hj => Z2k _ hj) (fun j b _ => Iff.rfl) (fun j hj y hy => by subst hj; rw [hn] at hy; cases hy) (by simp) rfl rfl rfl
  (fun b hb _ => by show (w.heap.push _)[b]? = _; rw [Array.getElem?_push, if_neg (by omega)]) (fun k' b hk' _ hf => ?_) (fun k1 k2 b h1 h2 _ _ _ _ => h1.trans h2.symm) (fun k' hk' hle' => ?_) (fun hmono k' sz' es' hk' hb _ => ?_) (fun k' y hk' _ b => by subst hk'; exact h.non k' hn b)
  (fun _ k' y hk' hy _ => by subst hk'; exact (hnob y hy).elim) (fun k' hk' he => by subst hk'; rw [hat] at he; cases he) (fun k' y hk' hy => ?_)
 ·subst hk';obtain rfl := hfk b hf;exact .inr ⟨Nat.le_refl _, by simp⟩
 ·subst hk';have := Zi4 x hle; omega
 ·subst hk';rw [Zbz x hle, if_pos rfl, hes] at hb
  cases hb
  exact .inr ⟨w.heap.size, c.size, c, t, hat, by show (w.heap.push _)[w.heap.size]? = _; simp, rfl, hsz, hc.mono (fun _ _ _ e => e) hmono⟩
 ·subst hk';rw [Z2m x hle, if_pos rfl] at hy
  cases hy; exact hbf
theorem Zqx {F : Fz} {μ : Mu} {H : List Blk} {w w' : World} (h : HR F μ H w) {k sz b m : Nat} {es : List D} {c c' : Array Value} {t : TypeId} (hb : Z17 H k = some (sz, es)) (hμ : μ k = some (some (b, m)))
  (hw : w.heap[b]? = some (.cells c t (0, 0))) (hw' : w'.heap = w.heap.setIfInBounds b (.cells c' t (0, 0))) (e1 : w'.tape = w.tape) (e2 : w'.os = w.os) (e3 : w'.output = w.output) (hs : c'.size = m)
  {x : Blk} (hbf : BFr x) {sz' : Nat} {es' : List D} (hx : x.es = some (sz', es')) (hl : es'.length * sz' <= m) (hc : Z1l F μ sz' es' c') : HR F μ (H.set k x) w' /\ Post F μ H w F μ (H.set k x) w' := by
 have hk := Z7k hb;have hset : ∀ j, (H.set k x)[j]? = if j = k then some x else H[j]? := fun j => by
  have := Z2m (H := H) x (Nat.le_of_lt hk) j
  rwa [setB, if_pos hk] at this
 have hlive := Z15 hb;have hblt := (Array.getElem?_eq_some_iff.1 hw).1;have hnob : ∀ y, Z13 (H.set k x) k = some y -> False := fun y hy => by
  rw [Z19 (by rw [hset, if_pos rfl])] at hy
  cases x <;> simp [Blk.es, Blk.obj] at hx hy
 have := Z5e (μ' := μ) (w' := w') (H' := H.set k x) (fun j => j = k) h (by simp) (fun j hj => by rw [hset, if_neg hj]) (fun j _ => rfl) (fun j b _ => Iff.rfl) (fun _ _ _ h => h) (by rw [hw']; simp) e1 e2 e3
  (fun b' hb' hn => by rw [hw', Array.getElem?_setIfInBounds, if_neg]; rintro rfl; exact hn k rfl hlive (.inl ⟨m, hμ⟩)) (fun k' b' hk' _ hf => .inl ⟨k, rfl, hlive, by subst hk'; exact hf⟩) (fun k1 k2 b h1 h2 _ _ _ _ => h1.trans h2.symm)
  (fun k' hk' hle' => by subst hk'; simp at hle'; omega) (fun _ k' sz1 es1 hk' hb1 _ => ?_) (fun k' y hk' _ b => by subst hk'; exact h.plain k' _ hb b) (fun _ k' y hk' hy _ => by subst hk'; exact (hnob y hy).elim) (fun k' hk' he => by subst hk'; rw [hμ] at he; cases he) (fun k' y hk' hy => ?_)
 ·exact ⟨this.1, this.2.1⟩
 ·subst hk';rw [Z1s (by rw [hset, if_pos rfl]), hx] at hb1; cases hb1;exact .inr ⟨b, m, c', t, hμ, by rw [hw', Array.getElem?_setIfInBounds, if_pos rfl, if_pos hblt], hs, hl, hc⟩
 ·subst hk';rw [hset, if_pos rfl] at hy; cases hy; exact hbf
theorem Zns {F : Fz} {μ : Mu} {H : List Blk} {w : World} (h : HR F μ H w) {k : Nat} (hk : k < H.length) : HR F μ (H.set k .dead) w /\ Post F μ H w F μ (H.set k .dead) w := by
 have hset : ∀ j, (H.set k Blk.dead)[j]? = if j = k then some Blk.dead else H[j]? := fun j => by
  have := Z2m (H := H) Blk.dead (Nat.le_of_lt hk) j
  rwa [setB, if_pos hk] at this
 have hd : Z20 (H.set k Blk.dead) k = false := by rw [Z6x (by rw [hset, if_pos rfl])]; rfl
 have := Z5e (μ' := μ) (w' := w) (H' := H.set k .dead) (fun j => j = k) h (by simp) (fun j hj => by rw [hset, if_neg hj]) (fun j _ => rfl) (fun j b _ => Iff.rfl) (fun _ _ _ h => h) (Nat.le_refl _) rfl rfl rfl
  (fun b' hb' hn => rfl) (fun k' b' hk' hlv _ => by subst hk'; rw [hd] at hlv; cases hlv) (fun k1 k2 b h1 h2 _ _ _ _ => h1.trans h2.symm)
  (fun k' hk' hle' => by subst hk'; simp at hle'; omega) (fun _ k' sz1 es1 hk' hb1 _ => by subst hk'; have := Z15 hb1; rw [hd] at this; cases this) (fun k' y hk' hb1 b => by subst hk'; have := Z15 hb1; rw [hd] at this; cases this) (fun _ k' y hk' hy _ => by subst hk'; have := Z2j hy; rw [hd] at this; cases this) (fun k' hk' he => by subst hk'; exact h.non k' he) (fun k' y hk' hy => by
   subst hk'; rw [hset, if_pos rfl] at hy; cases hy; exact fun _ _ e => by cases e)
 exact ⟨this.1, this.2.1⟩
section
variable {F : Fz} {μ : Mu} {w : World}
theorem Z2p {H : List Blk} {k : Nat} {y : OB} (h : Z13 H k = some y) : k < H.length := by
 unfold Z13 at h;obtain ⟨x, hx, -⟩ := Option.bind_eq_some_iff.1 h;exact (List.getElem?_eq_some_iff.1 hx).1
theorem Z41 {H : List Blk} {k : Nat} {y : OB} (x : Blk) (h : Z13 H k = some y) : Z13 (H ++ [x]) k = some y := by
 unfold Z13 at h ⊢; rw [List.getElem?_append_left (Z2p h)]; exact h
theorem Z95 {H : List Blk} {k j : Nat} {y : OB} {z : Nat × List D} (x : Blk) (hb : Z17 H j = some z) (h : Z13 H k = some y) : Z13 (H.set j x) k = some y := by
 have hne : j ≠ k := by rintro rfl; rw [Z6w h] at hb; cases hb
 unfold Z13 at h ⊢; rw [List.getElem?_set, if_neg hne]; exact h
theorem Zbc {H : List Blk} (h : HR F μ H w) {k b m : Nat} {x y : OB} {o : Obj} (hb : Z13 H k = some x) (hμ : μ k = some (some (b, m))) (hn : ∀ c, ¬ μ.inn k c) {w' : World} (hw' : w'.heap = w.heap.setIfInBounds b o) (e1 : w'.tape = w.tape) (e2 : w'.os = w.os) (e3 : w'.output = w.output)
  (hy : w'.heap[b]? = some o -> OBR F μ k w' y) : HR F μ (H.set k (.ob y)) w' /\ Post F μ H w F μ (H.set k (.ob y)) w' := by
 have hk := Z2p hb;have hset : ∀ j, (H.set k (Blk.ob y))[j]? = if j = k then some (Blk.ob y) else H[j]? := fun j => by
  have := Z2m (H := H) (Blk.ob y) (Nat.le_of_lt hk) j
  rwa [setB, if_pos hk] at this
 have hlive := Z2j hb;have hblt := h.lt b ⟨k, hlive, .inl ⟨m, hμ⟩⟩;have := Z5e (μ' := μ) (w' := w') (H' := H.set k (.ob y)) (fun j => j = k) h (by simp) (fun j hj => by rw [hset, if_neg hj]) (fun j _ => rfl) (fun j b _ => Iff.rfl) (fun _ _ _ h => h) (by rw [hw']; simp) e1 e2 e3
  (fun b' hb' hn => by rw [hw', Array.getElem?_setIfInBounds, if_neg]; rintro rfl; exact hn k rfl hlive (.inl ⟨m, hμ⟩)) (fun k' b' hk' _ hf => .inl ⟨k, rfl, hlive, by subst hk'; exact hf⟩) (fun k1 k2 b h1 h2 _ _ _ _ => h1.trans h2.symm)
  (fun k' hk' hle' => by subst hk'; simp at hle'; omega) (fun _ k' sz1 es1 hk' hb1 _ => by subst hk'; rw [Z1s (by rw [hset, if_pos rfl])] at hb1; cases hb1) (fun k' z hk' hb1 b => by subst hk'; exact hn b)
  (fun _ k' z hk' hz _ => by
   subst hk'
   rw [Z19 (by rw [hset, if_pos rfl])] at hz; cases hz
   exact hy (by rw [hw', Array.getElem?_setIfInBounds, if_pos rfl, if_pos hblt])) (fun k' hk' he => by subst hk'; exact hn) (fun k' z hk' hz => by
   subst hk'; rw [hset, if_pos rfl] at hz; cases hz; exact fun _ _ e => by cases e)
 exact ⟨this.1, this.2.1⟩
theorem Z48 {H : List Blk} {k j : Nat} {y x : OB} (hb : Z13 H j = some x) (hx : x ≠ .mk) (z : Blk) (h : Z13 H k = some .mk) : Z13 (H.set j z) k = some .mk := by
 have hne : j ≠ k := by rintro rfl; rw [h] at hb; cases hb; exact hx rfl
 unfold Z13 at h ⊢; rw [List.getElem?_set, if_neg hne]; exact h
theorem Zjj {H : List Blk} (h : HR F μ H w) {x : OB} {o : Obj} (hx : x ≠ .mk) (hy : (w.alloc o).heap[w.heap.size]? = some o -> (∀ j y, μ j = some y -> Z4v μ H.length (some (w.heap.size, 0)) j = some y) -> OBR F (Z4v μ H.length (some (w.heap.size, 0))) H.length (w.alloc o) x) :
  HR F (Z4v μ H.length (some (w.heap.size, 0))) (H ++ [.ob x]) (w.alloc o) /\ Post F μ H w F (Z4v μ H.length (some (w.heap.size, 0))) (H ++ [.ob x]) (w.alloc o) /\ ∀ j y, μ j = some y -> Z4v μ H.length (some (w.heap.size, 0)) j = some y := by
 have hn : μ H.length = none := h.dom _ (Nat.le_refl _);have hat := Z6h μ H.length (some (w.heap.size, 0));have hget : (H ++ [Blk.ob x])[H.length]? = some (.ob x) := by simp
 have hf : ∀ b, Z40 (Z4v μ H.length (some (w.heap.size, 0))) H.length b -> b = w.heap.size := fun b hb => by
  rcases hb with ⟨m, hm⟩ | hi
  ·rw [hat] at hm; cases hm; rfl
  ·exact absurd hi (h.non _ hn b)
 refine Z5e (fun j => j = H.length) h (by simp) (fun k hk => by
   by_cases hlt : k < H.length
   ·rw [List.getElem?_append_left hlt]
   ·rw [List.getElem?_eq_none (by simp; omega), List.getElem?_eq_none (by omega)]) (fun j hj => Z2k _ hj) (fun j b _ => Iff.rfl) (fun j hj y hy => by subst hj; rw [hn] at hy; cases hy) (by simp) rfl rfl rfl
  (fun b hb _ => by show (w.heap.push _)[b]? = _; rw [Array.getElem?_push, if_neg (by omega)]) (fun k' b hk' _ hff => ?_) (fun k1 k2 b h1 h2 _ _ _ _ => h1.trans h2.symm) (fun k' hk' hle => by subst hk'; simp at hle; omega) (fun _ k' sz es hk' hb _ => by subst hk'; rw [Z1s hget] at hb; cases hb)
  (fun k' y hk' hb b => by subst hk'; rw [Z1s hget] at hb; cases hb) (fun hmono k' y hk' hyy _ => ?_) (fun k' hk' he => by subst hk'; rw [hat] at he; cases he) (fun k' y hk' hyy => by
   subst hk'; rw [hget] at hyy; cases hyy; exact fun _ _ e => by cases e)
 ·subst hk';obtain rfl := hf b hff;exact .inr ⟨Nat.le_refl _, by simp⟩
 ·subst hk';rw [Z19 hget] at hyy; cases hyy;exact hy (by show (w.heap.push _)[w.heap.size]? = _; simp) hmono
end
end Go.Abs

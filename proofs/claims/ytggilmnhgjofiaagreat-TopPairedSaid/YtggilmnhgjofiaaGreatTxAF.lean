/- Part TxAF of the proofs about the benches of the accordion maker: see the last text of the claim for what is proved. -/
import Derived.Laws.CopyRow
import Derived.Laws.Rows
import Derived.Test.YtggilmnhgjofiaaGreatTxAE
set_option linter.unusedVariables false
set_option linter.unusedSimpArgs false
set_option linter.unnecessarySimpa false
set_option linter.constructorNameAsVariable false

namespace Go.Abs
open Go
def Z4l (H : List Blk) (k : Nat) (x : Blk) : List Blk := if k < H.length then H.set k x else H ++ [x]
def Z4v (μ : Mu) (k : Nat) (x : Option (Nat × Nat)) : Mu := ⟨fun j => if j = k then some x else μ j, μ.inn⟩
theorem Z6h (μ : Mu) (k : Nat) (x : Option (Nat × Nat)) : Z4v μ k x k = some x := by show (if k = k then some x else μ k) = some x; rw [if_pos rfl]
theorem Z2k {μ : Mu} {k j : Nat} (x : Option (Nat × Nat)) (h : j ≠ k) : Z4v μ k x j = μ j := by show (if j = k then some x else μ j) = μ j; rw [if_neg h]
theorem Z2m {H : List Blk} {k : Nat} (x : Blk) (hk : k <= H.length) (j : Nat) : (Z4l H k x)[j]? = if j = k then some x else H[j]? := by
 unfold Z4l
 split
 ·rename_i h; rw [List.getElem?_set]
  by_cases hj : k = j
  ·subst hj; simp [h]
  ·rw [if_neg hj, if_neg (fun e => hj e.symm)]
 ·rename_i h
  obtain rfl : k = H.length := by omega
  by_cases hj : j = H.length
  ·subst hj; simp
  ·rw [if_neg hj]
   by_cases hlt : j < H.length
   ·rw [List.getElem?_append_left hlt]
   ·rw [List.getElem?_append_right (by omega), List.getElem?_eq_none (by omega : H.length <= j)];have : j - H.length = (j - H.length - 1) + 1 := by omega
    rw [this]; simp
theorem Z7b {H : List Blk} {k : Nat} (x : Blk) : H.length <= (Z4l H k x).length /\ (Z4l H k x).length <= max H.length (H.length + 1) := by
 unfold Z4l; split <;> simp <;> omega
theorem Zbz {H : List Blk} {k : Nat} (x : Blk) (hk : k <= H.length) (j : Nat) : Z17 (Z4l H k x) j = if j = k then x.es else Z17 H j := by
 unfold Z17; rw [Z2m x hk]; split <;> rfl
theorem Zu6 {H : List Blk} {k : Nat} (x : Blk) (hk : k < H.length) (j : Nat) : Z17 (H.set k x) j = if j = k then x.es else Z17 H j := by
 have := Zbz x (Nat.le_of_lt hk) j
 rwa [Z4l, if_pos hk] at this
theorem Z7k {H : List Blk} {k : Nat} {y : Nat × List D} (h : Z17 H k = some y) : k < H.length := by
 unfold Z17 at h;obtain ⟨x, hx, -⟩ := Option.bind_eq_some_iff.1 h;exact (List.getElem?_eq_some_iff.1 hx).1
theorem Zep {H : List Blk} {k : Nat} (x : Blk) (hk : k <= H.length) (j : Nat) : Z13 (Z4l H k x) j = if j = k then x.obj else Z13 H j := by
 unfold Z13; rw [Z2m x hk]; split <;> rfl
theorem Zi4 {H : List Blk} {k : Nat} (x : Blk) (h : k <= H.length) : k < (Z4l H k x).length := by
 unfold Z4l; split
 ·simpa
 ·simp; omega
theorem Z1s {H : List Blk} {k : Nat} {x : Blk} (h : H[k]? = some x) : Z17 H k = x.es := by unfold Z17; rw [h]; rfl
theorem Z19 {H : List Blk} {k : Nat} {x : Blk} (h : H[k]? = some x) : Z13 H k = x.obj := by unfold Z13; rw [h]; rfl
theorem Z6x {H : List Blk} {k : Nat} {x : Blk} (h : H[k]? = some x) : Z20 H k = x.live := by unfold Z20; rw [h]; rfl
theorem HR.congr {F : Fz} {μ : Mu} {H : List Blk} {w w' : World} (h : HR F μ H w) (e : w'.heap = w.heap) : HR F μ H w' :=
 ⟨h.dom, fun k sz es hk => by rw [e]; exact h.row k sz es hk, h.plain, fun k x hx hn => by
  have := h.obj k x hx hn
  cases x <;> simpa only [OBR, e] using this, h.non, h.inj, fun b hb => by rw [e]; exact h.lt b hb, fun b o v hv => ⟨by rw [World.cell?_of_block (w := w) (by rw [e])]; exact (h.frz b o v hv).1, (h.frz b o v hv).2⟩, h.fr, fun b p hp => by rw [e]; exact h.kb b p hp⟩
theorem Post.congr {F F' : Fz} {μ μ' : Mu} {H H' : List Blk} {w w' w2 : World} (h : Post F μ H w F' μ' H' w') (e : w2.heap = w'.heap) (e1 : w2.tape = w'.tape) (e2 : w2.os = w'.os) (e3 : w2.output = w'.output) : Post F μ H w F' μ' H' w2 :=
 ⟨h.mono, h.back, by rw [e]; exact h.size, e1.trans h.tape, e2.trans h.os, e3.trans h.output, fun b hb ho => by rw [e]; exact h.keep b hb ho⟩
theorem HR.block_lt {F : Fz} {μ : Mu} {H : List Blk} {w : World} (h : HR F μ H w) {b : Nat} (ho : Own μ H b) : b < w.heap.size := h.lt b ho
theorem OBR.frame {F F' : Fz} {μ μ' : Mu} {k : Nat} {w w' : World} {x : OB} (h : OBR F μ k w x) (hF : ∀ b o v, F b o = some v -> F' b o = some v) (hμ : ∀ j y, μ j = some y -> μ' j = some y) (hi : ∀ b, μ'.inn k b ↔ μ.inn k b)
  (hw : ∀ b, Z40 μ k b -> w'.heap[b]? = w.heap[b]?) : OBR F' μ' k w' x := by
 have hn : (∀ c, ¬ μ.inn k c) -> ∀ c, ¬ μ'.inn k c := fun h c hc => h c ((hi c).1 hc)
 cases x with
 | mp kn ents =>
  obtain ⟨b, es, clock, h1, h2, h3, h4, h5, h6, h7⟩ := h;exact ⟨b, es, clock, hμ _ _ h1, by rw [hw b (.inl ⟨_, h1⟩)]; exact h2, h3, h4, h5, fun i e x a c => ⟨(h6 i e x a c).1, (h6 i e x a c).2.1, (h6 i e x a c).2.2.mono hF⟩, hn h7⟩
 | mpx kn ents bs clock =>
  obtain ⟨b, es, h1, h2, h3, h4, h5, h5', h6, h7⟩ := h;exact ⟨b, es, hμ _ _ h1, by rw [hw b (.inl ⟨_, h1⟩)]; exact h2, h3, h4, h5, h5', fun i e x a c => ⟨(h6 i e x a c).1, (h6 i e x a c).2.1, (h6 i e x a c).2.2.mono hF⟩, hn h7⟩
 | mi k' since seen stepped =>
  obtain ⟨b, bm, m, h1, h2, h3, h7⟩ := h;exact ⟨b, bm, m, hμ _ _ h1, hμ _ _ h2, by rw [hw b (.inl ⟨_, h1⟩)]; exact h3, hn h7⟩
 | lp st pend env nt params assign body =>
  obtain ⟨b, r, h1, h2, h3, h4, h5, h6, h8, h9, h10, h7⟩ := h;exact ⟨b, r, hμ _ _ h1, by rw [hw b (.inl ⟨_, h1⟩)]; exact h2, h3, h4, h5, h6, h8, h9, fun t d ht => let ⟨v, g1, g2⟩ := h10 t d ht; ⟨v, g1, g2.mono hF hμ⟩, hn h7⟩
 | gr sz ents =>
  obtain ⟨h1, loc, h2, h3⟩ := h;refine ⟨hμ _ _ h1, loc, fun j e row he => ?_, h3⟩;obtain ⟨c, t, cap, g1, g2, g3, g4, g5, g6, g7⟩ := h2 j e row he;exact ⟨c, t, cap, g1, g2, g3, by rw [hw _ (.inr g7)]; exact g4, g5.mono hF hμ, g6, (hi _).2 g7⟩
 | ch b =>
  exact ⟨hμ _ _ h.1, by rw [hw b (.inl ⟨_, h.1⟩)]; exact h.2.1, hn h.2.2⟩
 | si s pos =>
  obtain ⟨b, h1, h3, h7⟩ := h;exact ⟨b, hμ _ _ h1, by rw [hw b (.inl ⟨_, h1⟩)]; exact h3, hn h7⟩
 | mk =>
  exact ⟨hμ _ _ h.1, fun c hc => by rw [hw c (.inr ((hi c).1 hc))]; exact h.2 c ((hi c).1 hc)⟩
theorem Z5e {F : Fz} {μ μ' : Mu} {H H' : List Blk} {w w' : World} (C : Nat -> Prop) (h : HR F μ H w) (hl : H.length <= H'.length) (hH : ∀ j, ¬ C j -> H'[j]? = H[j]?) (hμ : ∀ j, ¬ C j -> μ' j = μ j) (hi : ∀ j b, ¬ C j -> (μ'.inn j b ↔ μ.inn j b))
  (hup : ∀ j, C j -> ∀ y, μ j = some y -> μ' j = some y) (hsz : w.heap.size <= w'.heap.size) (e1 : w'.tape = w.tape) (e2 : w'.os = w.os) (e3 : w'.output = w.output)
  (hheap : ∀ b, b < w.heap.size -> (∀ k, C k -> Z20 H k = true -> ¬ Z40 μ k b) -> w'.heap[b]? = w.heap[b]?)
  (hfoot : ∀ k b, C k -> Z20 H' k = true -> Z40 μ' k b -> (∃ j, C j /\ Z20 H j = true /\ Z40 μ j b) ∨ (w.heap.size <= b /\ b < w'.heap.size))
  (hinj : ∀ k k' b, C k -> C k' -> Z20 H' k = true -> Z20 H' k' = true -> Z40 μ' k b -> Z40 μ' k' b -> k = k')
  (hdom : ∀ k, C k -> H'.length <= k -> μ' k = none)
  (hrow : (∀ j y, μ j = some y -> μ' j = some y) -> ∀ k sz es, C k -> Z17 H' k = some (sz, es) -> μ' k ≠ none -> (μ' k = some none /\ es = []) ∨ ∃ b m c t, μ' k = some (some (b, m)) /\ w'.heap[b]? = some (.cells c t (0, 0)) /\ c.size = m /\ es.length * sz <= m /\ Z1l F μ' sz es c)
  (hplain : ∀ k y, C k -> Z17 H' k = some y -> ∀ b, ¬ μ'.inn k b)
  (hobj : (∀ j y, μ j = some y -> μ' j = some y) -> ∀ k x, C k -> Z13 H' k = some x -> x.nv (μ' k) -> OBR F μ' k w' x)
  (hnon : ∀ k, C k -> μ' k = none -> ∀ b, ¬ μ'.inn k b) (hbf : ∀ k x, C k -> H'[k]? = some x -> BFr x) :
  HR F μ' H' w' /\ Post F μ H w F μ' H' w' /\ ∀ j y, μ j = some y -> μ' j = some y := by
 have hmono : ∀ j y, μ j = some y -> μ' j = some y := fun j y hj => by
  by_cases hc : C j
  ·exact hup j hc y hj
  ·rw [hμ j hc]; exact hj
 have hb : ∀ j, ¬ C j -> Z17 H' j = Z17 H j := fun j hj => by unfold Z17; rw [hH j hj]
 have ho : ∀ j, ¬ C j -> Z13 H' j = Z13 H j := fun j hj => by unfold Z13; rw [hH j hj]
 have hv : ∀ j, ¬ C j -> Z20 H' j = Z20 H j := fun j hj => by unfold Z20; rw [hH j hj]
 have hf : ∀ j b, ¬ C j -> (Z40 μ' j b ↔ Z40 μ j b) := fun j b hj => by unfold Z40; rw [hμ j hj, hi j b hj]
 have hpo : ∀ j b, ¬ C j -> Z20 H j = true -> Z40 μ j b -> b < w.heap.size /\ w'.heap[b]? = w.heap[b]? := fun j b hj hl hfo => by
  have hlt := h.lt b ⟨j, hl, hfo⟩;exact ⟨hlt, hheap b hlt fun k hc hk hfk => hj (h.inj k j b hk hl hfk hfo ▸ hc)⟩
 have hown : ∀ b, Own μ' H' b -> Own μ H b ∨ (w.heap.size <= b /\ b < w'.heap.size) := fun b ⟨j, g1, g2⟩ => by
  by_cases hc : C j
  ·rcases hfoot j b hc g1 g2 with ⟨j', -, g3, g4⟩ | g
   ·exact .inl ⟨j', g3, g4⟩
   ·exact .inr g
  ·exact .inl ⟨j, by rw [<- hv j hc]; exact g1, (hf j b hc).1 g2⟩
 refine ⟨⟨fun k hk => ?_, fun k sz es hk hne => ?_, fun k y hk => ?_, fun k x hk hne => ?_, fun k hk => ?_, fun k k' b hk hk' g g' => ?_, fun b hb => ?_, fun b o v hv => ?_, fun k x hk => ?_, fun b p hp => ?_⟩,
  ⟨fun _ _ _ e => e, fun _ _ _ e => .inl e, hsz, e1, e2, e3, fun b hb ho => ⟨hheap b hb fun k _ hk hfo => ho ⟨k, hk, hfo⟩, fun ho' => ?_⟩⟩, hmono⟩
 ·by_cases hc : C k
  ·exact hdom k hc hk
  ·rw [hμ k hc]; exact h.dom k (Nat.le_trans hl hk)
 ·by_cases hc : C k
  ·exact hrow hmono k sz es hc hk hne
  ·rw [hb k hc] at hk;rw [hμ k hc] at hne ⊢;rcases h.row k sz es hk hne with hnil | ⟨b, m, c, t, a1, a2, a3, a4, a5⟩
   ·exact .inl hnil
   ·exact .inr ⟨b, m, c, t, a1, by rw [(hpo k b hc (Z15 hk) (.inl ⟨m, a1⟩)).2]; exact a2, a3, a4, a5.mono (fun _ _ _ e => e) hmono⟩
 ·by_cases hc : C k
  ·exact hplain k y hc hk
  ·rw [hb k hc] at hk;exact fun b hb => h.plain k y hk b ((hi k b hc).1 hb)
 ·by_cases hc : C k
  ·exact hobj hmono k x hc hk hne
  ·rw [ho k hc] at hk;rw [hμ k hc] at hne;exact (h.obj k x hk hne).frame (fun _ _ _ e => e) hmono (fun b => hi k b hc) (fun b hb => (hpo k b hc (Z2j hk) hb).2)
 ·by_cases hc : C k
  ·exact hnon k hc hk
  ·rw [hμ k hc] at hk;exact fun b hb => h.non k hk b ((hi k b hc).1 hb)
 ·by_cases hc : C k <;> by_cases hc' : C k'
  ·exact hinj k k' b hc hc' hk hk' g g'
  ·exfalso
   rw [hv k' hc'] at hk';have g2 := (hf k' b hc').1 g';rcases hfoot k b hc hk g with ⟨j, a1, a2, a3⟩ | ⟨a1, -⟩
   ·exact hc' (h.inj j k' b a2 hk' a3 g2 ▸ a1)
   ·have := h.lt b ⟨k', hk', g2⟩; omega
  ·exfalso
   rw [hv k hc] at hk;have g2 := (hf k b hc).1 g;rcases hfoot k' b hc' hk' g' with ⟨j, a1, a2, a3⟩ | ⟨a1, -⟩
   ·exact hc (h.inj j k b a2 hk a3 g2 ▸ a1)
   ·have := h.lt b ⟨k, hk, g2⟩; omega
  ·exact h.inj k k' b (by rw [<- hv k hc]; exact hk) (by rw [<- hv k' hc']; exact hk') ((hf k b hc).1 g) ((hf k' b hc').1 g')
 ·rcases hown b hb with ho | ⟨-, ho⟩
  ·exact Nat.lt_of_lt_of_le (h.lt b ho) hsz
  ·exact ho
 ·obtain ⟨hcell, hno⟩ := h.frz b o v hv;have hlt : b < w.heap.size := World.block_lt_of_cell? _ _ hcell;refine ⟨by rw [World.cell?_of_block (w := w) (hheap b hlt fun k _ hk hfo => hno ⟨k, hk, hfo⟩)]; exact hcell, fun ho' => ?_⟩;rcases hown b ho' with g | ⟨g, -⟩
  ·exact hno g
  ·omega
 ·by_cases hc : C k
  ·exact hbf k x hc hk
  ·rw [hH k hc] at hk; exact h.fr k x hk
 ·obtain ⟨⟨ob, hob, hp2⟩, hno⟩ := h.kb b p hp;have hlt : b < w.heap.size := (Array.getElem?_eq_some_iff.1 hob).1;refine ⟨⟨ob, by rw [hheap b hlt fun k _ hk hfo => hno ⟨k, hk, hfo⟩]; exact hob, hp2⟩, fun ho' => ?_⟩;rcases hown b ho' with g | ⟨g, -⟩
  ·exact hno g
  ·omega
 ·rcases hown b ho' with g | ⟨g, -⟩
  ·exact ho g
  ·omega
theorem Zji {F : Fz} {μ : Mu} {H : List Blk} {w : World} (h : HR F μ H w) {k : Nat} (hn : μ k = none) (hle : k <= H.length) {x : Blk} (hbf : BFr x) {sz : Nat} {es : List D} (hes : x.es = some (sz, es))
  {c : Array Value} (hc : Z1l F μ sz es c) (hsz : es.length * sz <= c.size) (t : TypeId) :
  HR F (Z4v μ k (some (w.heap.size, c.size))) (Z4l H k x) (w.alloc (.cells c t)) /\ Post F μ H w F (Z4v μ k (some (w.heap.size, c.size))) (Z4l H k x) (w.alloc (.cells c t)) /\
   (∀ j y, μ j = some y -> Z4v μ k (some (w.heap.size, c.size)) j = some y) := by
 have hat := Z6h μ k (some (w.heap.size, c.size));have hnob : ∀ y, Z13 (Z4l H k x) k = some y -> False := fun y hy => by
  rw [Zep x hle, if_pos rfl] at hy
  cases x <;> simp [Blk.es, Blk.obj] at hes hy
 have hfk : ∀ b, Z40 (Z4v μ k (some (w.heap.size, c.size))) k b -> b = w.heap.size := fun b hb => by
  rcases hb with ⟨m, hm⟩ | hb
  ·rw [hat] at hm; cases hm; rfl
  ·exact absurd hb (h.non k hn b)
 refine Z5e (fun j => j = k) h (Z7b x).1 (fun j hj => by rw [Z2m x hle, if_neg hj]) (fun j hj => Z2k _ hj) (fun j b _ => Iff.rfl) (fun j hj y hy => by subst hj; rw [hn] at hy; cases hy) (by simp) rfl rfl rfl
  (fun b hb _ => by show (w.heap.push _)[b]? = _; rw [Array.getElem?_push, if_neg (by omega)]) (fun k' b hk' _ hf => ?_) (fun k1 k2 b h1 h2 _ _ _ _ => h1.trans h2.symm) (fun k' hk' hle' => ?_) (fun hmono k' sz' es' hk' hb _ => ?_) (fun k' y hk' _ b => by subst hk'; exact h.non k' hn b)
  (fun _ k' y hk' hy _ => by subst hk'; exact (hnob y hy).elim) (fun k' hk' he => by subst hk'; rw [hat] at he; cases he) (fun k' y hk' hy => ?_)
 ·subst hk';obtain rfl := hfk b hf;exact .inr ⟨Nat.le_refl _, by simp⟩
 ·subst hk';have := Zi4 x hle; omega
 ·subst hk';rw [Zbz x hle, if_pos rfl, hes] at hb
  cases hb
  exact .inr ⟨w.heap.size, c.size, c, t, hat, by show (w.heap.push _)[w.heap.size]? = _; simp, rfl, hsz, hc.mono (fun _ _ _ e => e) hmono⟩
 ·subst hk';rw [Z2m x hle, if_pos rfl] at hy
  cases hy; exact hbf
theorem Zqx {F : Fz} {μ : Mu} {H : List Blk} {w w' : World} (h : HR F μ H w) {k sz b m : Nat} {es : List D} {c c' : Array Value} {t : TypeId} (hb : Z17 H k = some (sz, es)) (hμ : μ k = some (some (b, m)))
  (hw : w.heap[b]? = some (.cells c t (0, 0))) (hw' : w'.heap = w.heap.setIfInBounds b (.cells c' t (0, 0))) (e1 : w'.tape = w.tape) (e2 : w'.os = w.os) (e3 : w'.output = w.output) (hs : c'.size = m)
  {x : Blk} (hbf : BFr x) {sz' : Nat} {es' : List D} (hx : x.es = some (sz', es')) (hl : es'.length * sz' <= m) (hc : Z1l F μ sz' es' c') : HR F μ (H.set k x) w' /\ Post F μ H w F μ (H.set k x) w' := by
 have hk := Z7k hb;have hset : ∀ j, (H.set k x)[j]? = if j = k then some x else H[j]? := fun j => by
  have := Z2m (H := H) x (Nat.le_of_lt hk) j
  rwa [Z4l, if_pos hk] at this
 have hlive := Z15 hb;have hblt := (Array.getElem?_eq_some_iff.1 hw).1;have hnob : ∀ y, Z13 (H.set k x) k = some y -> False := fun y hy => by
  rw [Z19 (by rw [hset, if_pos rfl])] at hy
  cases x <;> simp [Blk.es, Blk.obj] at hx hy
 have := Z5e (μ' := μ) (w' := w') (H' := H.set k x) (fun j => j = k) h (by simp) (fun j hj => by rw [hset, if_neg hj]) (fun j _ => rfl) (fun j b _ => Iff.rfl) (fun _ _ _ h => h) (by rw [hw']; simp) e1 e2 e3
  (fun b' hb' hn => by rw [hw', Array.getElem?_setIfInBounds, if_neg]; rintro rfl; exact hn k rfl hlive (.inl ⟨m, hμ⟩)) (fun k' b' hk' _ hf => .inl ⟨k, rfl, hlive, by subst hk'; exact hf⟩) (fun k1 k2 b h1 h2 _ _ _ _ => h1.trans h2.symm)
  (fun k' hk' hle' => by subst hk'; simp at hle'; omega) (fun _ k' sz1 es1 hk' hb1 _ => ?_) (fun k' y hk' _ b => by subst hk'; exact h.plain k' _ hb b) (fun _ k' y hk' hy _ => by subst hk'; exact (hnob y hy).elim) (fun k' hk' he => by subst hk'; rw [hμ] at he; cases he) (fun k' y hk' hy => ?_)
 ·exact ⟨this.1, this.2.1⟩
 ·subst hk';rw [Z1s (by rw [hset, if_pos rfl]), hx] at hb1; cases hb1;exact .inr ⟨b, m, c', t, hμ, by rw [hw', Array.getElem?_setIfInBounds, if_pos rfl, if_pos hblt], hs, hl, hc⟩
 ·subst hk';rw [hset, if_pos rfl] at hy; cases hy; exact hbf
theorem Zns {F : Fz} {μ : Mu} {H : List Blk} {w : World} (h : HR F μ H w) {k : Nat} (hk : k < H.length) : HR F μ (H.set k .dead) w /\ Post F μ H w F μ (H.set k .dead) w := by
 have hset : ∀ j, (H.set k Blk.dead)[j]? = if j = k then some Blk.dead else H[j]? := fun j => by
  have := Z2m (H := H) Blk.dead (Nat.le_of_lt hk) j
  rwa [Z4l, if_pos hk] at this
 have hd : Z20 (H.set k Blk.dead) k = false := by rw [Z6x (by rw [hset, if_pos rfl])]; rfl
 have := Z5e (μ' := μ) (w' := w) (H' := H.set k .dead) (fun j => j = k) h (by simp) (fun j hj => by rw [hset, if_neg hj]) (fun j _ => rfl) (fun j b _ => Iff.rfl) (fun _ _ _ h => h) (Nat.le_refl _) rfl rfl rfl
  (fun b' hb' hn => rfl) (fun k' b' hk' hlv _ => by subst hk'; rw [hd] at hlv; cases hlv) (fun k1 k2 b h1 h2 _ _ _ _ => h1.trans h2.symm)
  (fun k' hk' hle' => by subst hk'; simp at hle'; omega) (fun _ k' sz1 es1 hk' hb1 _ => by subst hk'; have := Z15 hb1; rw [hd] at this; cases this) (fun k' y hk' hb1 b => by subst hk'; have := Z15 hb1; rw [hd] at this; cases this) (fun _ k' y hk' hy _ => by subst hk'; have := Z2j hy; rw [hd] at this; cases this) (fun k' hk' he => by subst hk'; exact h.non k' he) (fun k' y hk' hy => by
   subst hk'; rw [hset, if_pos rfl] at hy; cases hy; exact fun _ _ e => by cases e)
 exact ⟨this.1, this.2.1⟩
section
variable {F : Fz} {μ : Mu} {w : World}
theorem Z2p {H : List Blk} {k : Nat} {y : OB} (h : Z13 H k = some y) : k < H.length := by
 unfold Z13 at h;obtain ⟨x, hx, -⟩ := Option.bind_eq_some_iff.1 h;exact (List.getElem?_eq_some_iff.1 hx).1
theorem Z41 {H : List Blk} {k : Nat} {y : OB} (x : Blk) (h : Z13 H k = some y) : Z13 (H ++ [x]) k = some y := by
 unfold Z13 at h ⊢; rw [List.getElem?_append_left (Z2p h)]; exact h
theorem Z95 {H : List Blk} {k j : Nat} {y : OB} {z : Nat × List D} (x : Blk) (hb : Z17 H j = some z) (h : Z13 H k = some y) : Z13 (H.set j x) k = some y := by
 have hne : j ≠ k := by rintro rfl; rw [Z6w h] at hb; cases hb
 unfold Z13 at h ⊢; rw [List.getElem?_set, if_neg hne]; exact h
theorem Zbc {H : List Blk} (h : HR F μ H w) {k b m : Nat} {x y : OB} {o : Obj} (hb : Z13 H k = some x) (hμ : μ k = some (some (b, m))) (hn : ∀ c, ¬ μ.inn k c) {w' : World} (hw' : w'.heap = w.heap.setIfInBounds b o) (e1 : w'.tape = w.tape) (e2 : w'.os = w.os) (e3 : w'.output = w.output)
  (hy : w'.heap[b]? = some o -> OBR F μ k w' y) : HR F μ (H.set k (.ob y)) w' /\ Post F μ H w F μ (H.set k (.ob y)) w' := by
 have hk := Z2p hb;have hset : ∀ j, (H.set k (Blk.ob y))[j]? = if j = k then some (Blk.ob y) else H[j]? := fun j => by
  have := Z2m (H := H) (Blk.ob y) (Nat.le_of_lt hk) j
  rwa [Z4l, if_pos hk] at this
 have hlive := Z2j hb;have hblt := h.lt b ⟨k, hlive, .inl ⟨m, hμ⟩⟩;have := Z5e (μ' := μ) (w' := w') (H' := H.set k (.ob y)) (fun j => j = k) h (by simp) (fun j hj => by rw [hset, if_neg hj]) (fun j _ => rfl) (fun j b _ => Iff.rfl) (fun _ _ _ h => h) (by rw [hw']; simp) e1 e2 e3
  (fun b' hb' hn => by rw [hw', Array.getElem?_setIfInBounds, if_neg]; rintro rfl; exact hn k rfl hlive (.inl ⟨m, hμ⟩)) (fun k' b' hk' _ hf => .inl ⟨k, rfl, hlive, by subst hk'; exact hf⟩) (fun k1 k2 b h1 h2 _ _ _ _ => h1.trans h2.symm)
  (fun k' hk' hle' => by subst hk'; simp at hle'; omega) (fun _ k' sz1 es1 hk' hb1 _ => by subst hk'; rw [Z1s (by rw [hset, if_pos rfl])] at hb1; cases hb1) (fun k' z hk' hb1 b => by subst hk'; exact hn b)
  (fun _ k' z hk' hz _ => by
   subst hk'
   rw [Z19 (by rw [hset, if_pos rfl])] at hz; cases hz
   exact hy (by rw [hw', Array.getElem?_setIfInBounds, if_pos rfl, if_pos hblt])) (fun k' hk' he => by subst hk'; exact hn) (fun k' z hk' hz => by
   subst hk'; rw [hset, if_pos rfl] at hz; cases hz; exact fun _ _ e => by cases e)
 exact ⟨this.1, this.2.1⟩
theorem Z48 {H : List Blk} {k j : Nat} {y x : OB} (hb : Z13 H j = some x) (hx : x ≠ .mk) (z : Blk) (h : Z13 H k = some .mk) : Z13 (H.set j z) k = some .mk := by
 have hne : j ≠ k := by rintro rfl; rw [h] at hb; cases hb; exact hx rfl
 unfold Z13 at h ⊢; rw [List.getElem?_set, if_neg hne]; exact h
theorem Zjj {H : List Blk} (h : HR F μ H w) {x : OB} {o : Obj} (hx : x ≠ .mk) (hy : (w.alloc o).heap[w.heap.size]? = some o -> (∀ j y, μ j = some y -> Z4v μ H.length (some (w.heap.size, 0)) j = some y) -> OBR F (Z4v μ H.length (some (w.heap.size, 0))) H.length (w.alloc o) x) :
  HR F (Z4v μ H.length (some (w.heap.size, 0))) (H ++ [.ob x]) (w.alloc o) /\ Post F μ H w F (Z4v μ H.length (some (w.heap.size, 0))) (H ++ [.ob x]) (w.alloc o) /\ ∀ j y, μ j = some y -> Z4v μ H.length (some (w.heap.size, 0)) j = some y := by
 have hn : μ H.length = none := h.dom _ (Nat.le_refl _);have hat := Z6h μ H.length (some (w.heap.size, 0));have hget : (H ++ [Blk.ob x])[H.length]? = some (.ob x) := by simp
 have hf : ∀ b, Z40 (Z4v μ H.length (some (w.heap.size, 0))) H.length b -> b = w.heap.size := fun b hb => by
  rcases hb with ⟨m, hm⟩ | hi
  ·rw [hat] at hm; cases hm; rfl
  ·exact absurd hi (h.non _ hn b)
 refine Z5e (fun j => j = H.length) h (by simp) (fun k hk => by
   by_cases hlt : k < H.length
   ·rw [List.getElem?_append_left hlt]
   ·rw [List.getElem?_eq_none (by simp; omega), List.getElem?_eq_none (by omega)]) (fun j hj => Z2k _ hj) (fun j b _ => Iff.rfl) (fun j hj y hy => by subst hj; rw [hn] at hy; cases hy) (by simp) rfl rfl rfl
  (fun b hb _ => by show (w.heap.push _)[b]? = _; rw [Array.getElem?_push, if_neg (by omega)]) (fun k' b hk' _ hff => ?_) (fun k1 k2 b h1 h2 _ _ _ _ => h1.trans h2.symm) (fun k' hk' hle => by subst hk'; simp at hle; omega) (fun _ k' sz es hk' hb _ => by subst hk'; rw [Z1s hget] at hb; cases hb)
  (fun k' y hk' hb b => by subst hk'; rw [Z1s hget] at hb; cases hb) (fun hmono k' y hk' hyy _ => ?_) (fun k' hk' he => by subst hk'; rw [hat] at he; cases he) (fun k' y hk' hyy => by
   subst hk'; rw [hget] at hyy; cases hyy; exact fun _ _ e => by cases e)
 ·subst hk';obtain rfl := hf b hff;exact .inr ⟨Nat.le_refl _, by simp⟩
 ·subst hk';rw [Z19 hget] at hyy; cases hyy;exact hy (by show (w.heap.push _)[w.heap.size]? = _; simp) hmono
end
end Go.Abs

namespace Go.Abs
open Go
structure Ar where
 add : Int -> Int -> Int
 sub : Int -> Int -> Int
 mul : Int -> Int -> Int
 neg : Int -> Int
 quo : Int -> Int -> Int
 rem : Int -> Int -> Int
 wrap : IntKind -> Int -> Int
 bits : BinOp -> IntKind -> Int -> Int -> Int
 shift : BinOp -> IntKind -> Int -> Int -> Int
 cmp : BinOp -> Int -> Int -> Bool
 min : Int -> Int -> Int
 max : Int -> Int -> Int
 fits : IntKind -> Int -> Prop
 nz : Int -> Prop
 nneg : Int -> Prop
 beq : Bool -> Bool -> Bool
 band : Bool -> Bool -> Bool
 bnot : Bool -> Bool
 seq : ByteArray -> ByteArray -> Bool
 inb : Int -> Nat -> Prop
 tn : Int -> Nat
 oi : Nat -> Int
 addN : Nat -> Nat -> Nat
 mulN : Nat -> Nat -> Nat
 get : List D -> Nat -> Option D
 len : List D -> Nat
 set : List D -> Nat -> D -> List D
 app : List D -> List D -> List D
 sub2 : List D -> Int -> Int -> List D
 rep : Nat -> D -> List D
 lenIs : List D -> Nat -> Prop
 ltN : Nat -> List D -> Prop
 leN : Nat -> Nat -> Prop
 eqN : Nat -> Nat -> Prop
 sub2OK : List D -> Int -> Int -> Prop
 room : Nat -> Nat -> Prop
 sget : ByteArray -> Nat -> Int
 slen : ByteArray -> Nat
 ssub : ByteArray -> Int -> Int -> ByteArray
 ssubOK : ByteArray -> Int -> Int -> Prop
 scat : ByteArray -> ByteArray -> ByteArray
 scatOK : ByteArray -> ByteArray -> Prop
 leq : List Int -> List Int -> Bool
 mget : List (List Int × D) -> List Int -> D -> Option D
 mhas : List (List Int × D) -> List Int -> Bool
 mput : List (List Int × D) -> List Int -> D -> List (List Int × D)
 tl : Nat -> Int -> Nat -> Nat -> Nat -> Value
 tlOK : Int -> Nat -> Nat -> Prop
 hd : Nat -> Int -> Nat -> Value
 hdOK : Int -> Nat -> Prop
def Zc0 (op : BinOp) (k : IntKind) (x y : Int) : Int :=
 let a := BitVec.ofInt k.bits x
 let b := BitVec.ofInt k.bits y
 match op with
 | .and => k.wrap (a &&& b).toNat
 | .or => k.wrap (a ||| b).toNat
 | .xor => k.wrap (a ^^^ b).toNat
 | _ => k.wrap (a &&& ~~~b).toNat
def Zlp (op : BinOp) (k : IntKind) (x y : Int) : Int :=
 match op with
 | .shl => k.wrap (x * 2 ^ (Nat.min y.toNat k.bits))
 | _ => x.fdiv (2 ^ (Nat.min y.toNat k.bits))
def Z25 (op : BinOp) (x y : Int) : Bool :=
 match op with
 | .eql => x == y
 | .neq => x != y
 | .lss => x < y
 | .leq => x <= y
 | .gtr => x > y
 | _ => x ≥ y
def Zqy (s : ByteArray) (i : Nat) : Nat := ((s.data[i]?).map UInt8.toNat).getD 0
def ar : Ar where
 add x y := x + y
 sub x y := x - y
 mul x y := x * y
 neg x := -x
 quo := Int.tdiv
 rem := Int.tmod
 wrap := IntKind.wrap
 bits := Zc0
 shift := Zlp
 cmp := Z25
 min x y := if y < x then y else x
 max x y := if y > x then y else x
 fits k z := k.wrap z = z
 nz y := y ≠ 0
 nneg y := 0 <= y
 beq x y := x == y
 band x y := x && y
 bnot x := !x
 seq x y := x.toList == y.toList
 inb i n := 0 <= i /\ i < n
 tn := Int.toNat
 oi n := n
 addN x y := x + y
 mulN x y := x * y
 get l i := l[i]?
 len l := l.length
 set l i d := l.set i d
 app l r := l ++ r
 sub2 l lo hi := (l.take hi.toNat).drop lo.toNat
 rep n d := List.replicate n d
 lenIs l n := l.length = n
 ltN i l := i < l.length
 leN i n := i <= n
 eqN i n := i = n
 sub2OK l lo hi := 0 <= lo /\ lo <= hi /\ hi <= l.length
 room n b := n * b <= 140737488355328 /\ n <= 4611686018427387904
 sget s i := (Zqy s i : Nat)
 slen s := s.size
 ssub s lo hi := s.extract lo.toNat hi.toNat
 ssubOK s lo hi := 0 <= lo /\ lo <= hi /\ hi <= s.size
 scat x y := x ++ y
 scatOK x y := x.size + y.size <= 9223372036854775807
 leq x y := decide (x = y)
 mget l k z := some (((l.find? (·.1 == k)).map (·.2)).getD z)
 mhas l k := (l.find? (·.1 == k)).isSome
 mput l k d := match l.findIdx? (·.1 == k) with | some i => l.set i (k, d) | none => l ++ [(k, d)]
 tl b l sz n cap := .slice (if cap = l.toNat then some ⟨b, 0, none⟩ else some ⟨b, l.toNat * sz, none⟩) (n - l.toNat) (cap - l.toNat)
 tlOK l n cap := 0 <= l /\ l <= n /\ n <= cap
 hd b h cap := .slice (some ⟨b, 0, none⟩) h.toNat cap
 hdOK h cap := 0 <= h /\ h <= cap
structure Need {α : Type} (x : Option α) (K : α -> Prop) : Prop where
 out : ∃ d, x = some d /\ K d
structure TE where
 size : Nat
 bytes : Nat
 agg : Bool
 zero : D
 el : Option (Option Nat × Nat)
 fds : List (Nat × Nat × Nat)
 ik : Option IntKind
 kc : Nat
 ok : Bool
 mp : Option (Nat × Nat)
 fl : Option Nat
abbrev TT := Nat -> Option TE
def Z1d (T : TT) (n : Nat) : Option TE := T n
def lkp : List (Nat × TE) -> Nat -> Option TE
 | [], _ => none
 | (t, e) :: r, n => (match Nat.beq t n with | true => some e | false => lkp r n)
def Z8d : TypeDesc -> Bool
 | .struct _ | .array _ _ => true
 | _ => false
def Zaw : TypeDesc -> Nat
 | .bool => 1
 | .string => 2
 | .slice _ => 3
 | .map _ _ => 4
 | .pointer _ => 5
 | .func _ _ _ => 6
 | .interface _ => 7
 | .struct _ => 8
 | .array _ _ => 9
 | .int _ => 10
 | _ => 0
def Z3c (P : Program) (t : TypeId) : Option TE :=
 match P.info? t, P.underlying t with
 | some i, some d =>
  match i.zero with
  | some z => some { size := i.size, bytes := i.bytes, agg := Z8d d, zero := ofV z, el := (match d with | .slice e => some (none, e) | .array n e => some (some n, e) | _ => none), fds := (match d with | .struct fs => fs.toList.map (fun f => (f.offset, P.cellsOf f.type, ((P.underlying f.type).map fun d => if Z8d d then 1 else 0).getD 2)) | _ => []), ik := (match d with | .int k => some k | _ => none), kc := Zaw d, ok := (match d with | .struct fs => (fs.toList.mapM fun f => (P.info? f.type).map fun i => (f.offset, i.size)).isSome | _ => true), mp := (match d with | .map k e => some (k, e) | _ => none), fl := if P.eqGuardType P.depth t then none else Z3e P 6 t }
  | none => none
 | _, _ => none
structure TOK (P : Program) (T : TT) : Prop where
 ok : ∀ t e, Z1d T t = some e -> Z3c P t = some e
 zs : ∀ t e, Z1d T t = some e -> ∀ i z, P.info? t = some i -> i.zero = some z -> z.cells.size = i.size /\ ∀ v ∈ z.cells, v.oneCell' = true
 mixed : P.follows .mixedOrders = true
theorem TOK.at {P : Program} {T : TT} (h : TOK P T) {t : TypeId} {e : TE} (he : Z1d T t = some e) :
  ∃ i d z, P.info? t = some i /\ P.underlying t = some d /\ i.zero = some z /\ e.size = i.size /\ e.bytes = i.bytes /\ e.agg = Z8d d /\ e.zero = ofV z /\ z.cells.size = i.size /\ (∀ v ∈ z.cells, v.oneCell' = true) /\
   e.el = (match d with | .slice e => some (none, e) | .array n e => some (some n, e) | _ => none) /\
   e.fds = (match d with | .struct fs => fs.toList.map (fun f => (f.offset, P.cellsOf f.type, ((P.underlying f.type).map fun d => if Z8d d then 1 else 0).getD 2)) | _ => []) /\
   e.ik = (match d with | .int k => some k | _ => none) /\ e.kc = Zaw d /\ e.ok = (match d with | .struct fs => (fs.toList.mapM fun f => (P.info? f.type).map fun i => (f.offset, i.size)).isSome | _ => true) /\
   e.mp = (match d with | .map k e => some (k, e) | _ => none) /\ e.fl = (if P.eqGuardType P.depth t then none else Z3e P 6 t) := by
 have h1 := h.ok t e he;unfold Z3c at h1
 split at h1
 ·rename_i i d hi hd
  split at h1
  ·rename_i z hz
   cases h1
   obtain ⟨z1, z2⟩ := h.zs t _ he i z hi hz;exact ⟨i, d, z, hi, hd, hz, rfl, rfl, rfl, rfl, z1, z2, rfl, rfl, rfl, rfl, rfl, rfl, rfl⟩
  ·cases h1
 ·cases h1
def Zi5 : List D -> Nat -> Option D
 | [], _ => none
 | d :: _, 0 => some d
 | _ :: r, n + 1 => Zi5 r n
theorem Zc1 : ∀ (l : List D) (n : Nat), Zi5 l n = l[n]?
 | [], n => by simp [Zi5]
 | d :: _, 0 => by simp [Zi5]
 | _ :: r, n + 1 => by simp [Zi5, Zc1 r n]
def Z1m : List Blk -> Nat -> Option Blk
 | [], _ => none
 | d :: _, 0 => some d
 | _ :: r, n + 1 => Z1m r n
theorem Z1u : ∀ (l : List Blk) (n : Nat), Z1m l n = l[n]?
 | [], n => by simp [Z1m]
 | d :: _, 0 => by simp [Z1m]
 | _ :: r, n + 1 => by simp [Z1m, Z1u r n]
theorem Z42 {H : List Blk} {k : Nat} {x : OB} (h : Z1m H k = some (.ob x)) : Z13 H k = some x := by rw [Z1u] at h; rw [Z19 h]; rfl
def ldD (A : Ar) (agg : Bool) (n off : Nat) (K : D -> Prop) : D -> Prop
 | .agg cs =>
  match agg with
  | true => (match Nat.ble (off + n) cs.length with | true => K (.agg ((cs.drop off).take n)) | false => False)
  | false => (match Zi5 cs off with | some x => K x | none => False)
 | .arr cs =>
  match agg with
  | true => (match off with | 0 => A.lenIs cs n /\ K (.arr cs) | _ + 1 => False)
  | false => Need (A.get cs off) K
 | .any => False
 | x =>
  match agg with
  | true => False
  | false => (match off with | 0 => K x | _ + 1 => False)
def ldS (A : Ar) (agg : Bool) (off : Nat) (K : D -> Prop) : D -> Prop
 | .agg cs => (match agg with | true => False | false => Need (A.get cs off) K)
 | .arr cs => (match agg with | true => False | false => Need (A.get cs off) K)
 | _ => False
def ldP (A : Ar) (H : List Blk) (agg : Bool) (n : Nat) (K : D -> Prop) : D -> Prop
 | .b k off => (match Z1m H k with | some (.box d) => ldD A agg n off K d | _ => False)
 | .bs k off => (match Z1m H k with | some (.box d) => ldS A agg off K d | _ => False)
 | .p k sz i off => (match Z1m H k with | some (.els sz' es) => (match Nat.beq sz sz' with | true => Need (A.get es i) (ldD A agg n off K) | false => False) | some (.elo sz' es) => (match Nat.beq sz sz' with | true => Need (A.get es i) (ldD A agg n off K) | false => False) | _ => False)
 | .ip _ es i off => Need (A.get es i) (ldD A agg n off K)
 | .cb d off => ldD A agg n off K d
 | _ => False
section
variable {P : Program} {T : TT} {F : Fz} {μ : Mu} {w : World}
theorem add_lit (b o j : Nat) : (⟨b, o, none⟩ : Addr).add j = ⟨b, o + j, none⟩ := by unfold Addr.add; split <;> simp_all
theorem Zc2 (hT : TOK P T) {t : TypeId} {e : TE} (he : Z1d T t = some e) : (isAgg t).run P w = .ok e.agg w := by
 obtain ⟨i, d, z, h1, h2, h3, h4, h5, h6, -⟩ := hT.at he;unfold isAgg;rw [Sem.run_bind, run_underlying h2 w, h6]
 cases d <;> rfl
theorem Z6i (hT : TOK P T) {t : TypeId} {e : TE} (he : Z1d T t = some e) : (sizeOf t).run P w = .ok e.size w := by
 obtain ⟨i, d, z, h1, h2, h3, h4, -⟩ := hT.at he;simp [sizeOf, typeInfo, h1, h4]
theorem Z7s (hT : TOK P T) {t : TypeId} {e : TE} (he : Z1d T t = some e) {d : D} {b base off : Nat} {K : D -> Prop}
  (hc : ∀ (r : Nat) (c : D), d.cells[r]? = some c -> ∃ v, w.cell? ⟨b, base + r, none⟩ = some v /\ v.oneCell' = true /\ VR F μ c v) (h : ldD ar e.agg e.size off K d) :
  ∃ x v, (loadVar t ⟨b, base + off, none⟩).run P w = .ok v w /\ VR F μ x v /\ K x := by
 have one : ∀ (cs : List D), d.cells = cs -> ∀ x, cs[off]? = some x -> e.agg = false -> K x -> ∃ x v, (loadVar t ⟨b, base + off, none⟩).run P w = .ok v w /\ VR F μ x v /\ K x := fun cs hcs x hx ha hk => by
  obtain ⟨v, h1, h2, h3⟩ := hc off x (hcs ▸ hx);refine ⟨x, v, ?_, h3, hk⟩;unfold loadVar;rw [Sem.run_bind, Zc2 hT he, ha];simp [load, Sem.run, h1]
 have many : ∀ (cs : List D), d.cells = cs -> off + e.size <= cs.length -> e.agg = true -> ∃ vs : Array Value, (loadVar t ⟨b, base + off, none⟩).run P w = .ok (.agg vs) w /\
   ((cs.drop off).take e.size).length = vs.size /\ (∀ (i : Nat) (c : D) (v : Value), ((cs.drop off).take e.size)[i]? = some c -> vs[i]? = some v -> VR F μ c v) /\ (∀ (i : Nat) (v : Value), vs[i]? = some v -> v.oneCell' = true) := fun cs hcs hle ha => by
  have hch : ∀ r : Fin e.size, ∃ v, w.cell? ⟨b, base + off + r.1, none⟩ = some v /\ v.oneCell' = true /\ ∀ c, cs[off + r.1]? = some c -> VR F μ c v := fun r => by
   have hlt : off + r.1 < cs.length := by have := r.2; omega
   obtain ⟨v, h1, h2, h3⟩ := hc (off + r.1) cs[off + r.1] (by rw [hcs]; exact List.getElem?_eq_getElem hlt);refine ⟨v, by rw [Nat.add_assoc]; exact h1, h2, fun c hcc => ?_⟩;rw [List.getElem?_eq_getElem hlt] at hcc; cases hcc; exact h3
  let vs : List Value := (List.finRange e.size).map fun r => Classical.choose (hch r)
  have hget : ∀ j v, vs[j]? = some v -> ∃ hj : j < e.size, v = Classical.choose (hch ⟨j, hj⟩) := fun j v hj => by
   simp only [vs, List.getElem?_map, Option.map_eq_some_iff] at hj;obtain ⟨r, hr, rfl⟩ := hj;obtain ⟨h1, h2⟩ := List.getElem?_eq_some_iff.1 hr;simp only [List.length_finRange] at h1;refine ⟨h1, ?_⟩;have : r = ⟨j, h1⟩ := by rw [<- h2]; simp
   rw [this]
  have hlen : vs.length = e.size := by simp [vs]
  refine ⟨vs.toArray, ?_, by simp [hlen]; omega, fun i c v hi hv => ?_, fun i v hv => ?_⟩
  ·have hrun := run_loadCells_list (P := P) w ⟨b, base + off, none⟩ vs (fun j v hj => by
    obtain ⟨h1, rfl⟩ := hget j v hj
    rw [add_lit]; exact (Classical.choose_spec (hch ⟨j, h1⟩)).1)
   unfold loadVar;rw [Sem.run_bind, Zc2 hT he, ha];simp only [Result.andThen_ok, if_true, Sem.run_bind, Z6i hT he];rw [<- hlen, hrun]; rfl
  ·obtain ⟨h1, rfl⟩ := hget i v (by simpa using hv);rw [List.getElem?_take, if_pos h1, List.getElem?_drop] at hi;exact (Classical.choose_spec (hch ⟨i, h1⟩)).2.2 c hi
  ·obtain ⟨h1, rfl⟩ := hget i v (by simpa using hv);exact (Classical.choose_spec (hch ⟨i, h1⟩)).2.1
 cases d
 case agg cs =>
  simp only [ldD] at h
  split at h
  ·rename_i ha
   split at h
   ·rename_i hb
    obtain ⟨vs, h1, h2, h3, h4⟩ := many cs rfl (Nat.le_of_ble_eq_true hb) ha;exact ⟨_, _, h1, .agg _ _ h2 h3 h4, h⟩
   ·exact h.elim
  ·rename_i ha
   rw [Zc1] at h
   split at h
   ·rename_i x hx; exact one cs rfl x hx ha h
   ·exact h.elim
 case arr cs =>
  simp only [ldD] at h
  split at h
  ·rename_i ha
   split at h
   ·obtain ⟨hl, h⟩ := h;have hl : cs.length = e.size := hl;obtain ⟨vs, h1, h2, h3, h4⟩ := many cs rfl (by omega) ha;rw [List.drop_zero, List.take_of_length_le (by omega)] at h2 h3;exact ⟨_, _, h1, .arr _ _ h2 h3 h4, h⟩
   ·exact h.elim
  ·rename_i ha
   obtain ⟨x, hx, hk⟩ := h.out;exact one cs rfl x hx ha hk
 case any => exact h.elim
 all_goals
  simp only [ldD] at h
  split at h
  ·exact h.elim
  ·rename_i ha
   split at h
   ·exact one _ rfl _ rfl ha h
   ·exact h.elim
theorem Zp5 (hT : TOK P T) {t : TypeId} {e : TE} (he : Z1d T t = some e) {d : D} {b off : Nat} {K : D -> Prop}
  (hc : ∀ (r : Nat) (c : D), d.cells[r]? = some c -> ∃ v, w.cell? ⟨b, r, none⟩ = some v /\ v.oneCell' = true /\ VR F μ c v) (h : ldS ar e.agg off K d) :
  ∃ x v, (loadVar t ⟨b, off, none⟩).run P w = .ok v w /\ VR F μ x v /\ K x := by
 have one : ∀ (cs : List D), d.cells = cs -> ∀ x, cs[off]? = some x -> e.agg = false -> K x -> ∃ x v, (loadVar t ⟨b, off, none⟩).run P w = .ok v w /\ VR F μ x v /\ K x := fun cs hcs x hx ha hk => by
  obtain ⟨v, h1, h2, h3⟩ := hc off x (hcs ▸ hx);refine ⟨x, v, ?_, h3, hk⟩;unfold loadVar;rw [Sem.run_bind, Zc2 hT he, ha];simp [load, Sem.run, h1]
 cases d <;> try exact h.elim
 all_goals
  simp only [ldS] at h
  split at h
  ·exact h.elim
  ·rename_i ha
   obtain ⟨x, hx, hk⟩ := h.out;exact one _ rfl x hx ha hk
theorem HR.cells {H : List Blk} (h : HR F μ H w) {k sz b m : Nat} {es : List D} (hb : Z17 H k = some (sz, es)) (hμ : μ k = some (some (b, m))) (i : Nat) (e : D) (he : es[i]? = some e) (r : Nat) (d : D) (hd : e.cells[r]? = some d) :
  ∃ v, w.cell? ⟨b, i * sz + r, none⟩ = some v /\ v.oneCell' = true /\ VR F μ d v := by
 rcases h.row k sz es hb (by rw [hμ]; simp) with ⟨e1, -⟩ | ⟨b', m', c, t, e1, e2, -, -, hc⟩
 ·rw [hμ] at e1; cases e1
 ·rw [hμ] at e1; cases e1;obtain ⟨v, h1, h2, h3⟩ := (hc i e he).2 r d hd;exact ⟨v, by simp only [World.cell?, e2]; exact h1, h2, h3⟩
theorem Z7c {H : List Blk} {k : Nat} {d : D} (h : Z1m H k = some (.box d)) : Z17 H k = some (d.cells.length, [d]) := by
 rw [Z1u] at h; simp [Z17, h, Blk.es]
theorem Z5f {H : List Blk} {k sz : Nat} {es : List D} (h : Z1m H k = some (.els sz es)) : Z17 H k = some (sz, es) := by
 rw [Z1u] at h; simp [Z17, h, Blk.es]
theorem Z8e {H : List Blk} {k sz : Nat} {es : List D} (h : Z1m H k = some (.elo sz es)) : Z17 H k = some (sz, es) := by
 rw [Z1u] at h; simp [Z17, h, Blk.es]
theorem Zgk (hT : TOK P T) {t : TypeId} {e : TE} (he : Z1d T t = some e) {H : List Blk} (hr : HR F μ H w) {d : D} {v : Value} (hv : VR F μ d v) {K : D -> Prop} (h : ldP ar H e.agg e.size K d) :
  ∃ x y, (Instr.loadAt t v).run P w = .ok y w /\ VR F μ x y /\ K x := by
 have fin : ∀ a, v = .pointer (some a) -> (∃ x y, (loadVar t a).run P w = .ok y w /\ VR F μ x y /\ K x) -> ∃ x y, (Instr.loadAt t v).run P w = .ok y w /\ VR F μ x y /\ K x := fun a ha ⟨x, y, h1, h2⟩ =>
  ⟨x, y, by subst ha; simp only [Instr.loadAt, Instr.sureAddr, Sem.run_bind, Sem.run_pure, Result.andThen_ok, h1], h2⟩
 cases d <;> try exact h.elim
 case b k off =>
  simp only [ldP] at h
  split at h
  ·rename_i d hd
   cases hv with
   | cl _ _ hc => cases hc
   | b _ _ b m hμ =>
    refine fin _ rfl ?_;have := Z7s hT he (w := w) (F := F) (μ := μ) (b := b) (base := 0) (off := off) (d := d) (fun r c hrc => by simpa using hr.cells (Z7c hd) hμ 0 d rfl r c hrc) h;simpa using this
  ·exact h.elim
 case bs k off =>
  simp only [ldP] at h
  split at h
  ·rename_i d hd
   cases hv with
   | cl _ _ hc => cases hc
   | bs _ _ b m hμ => exact fin _ rfl (Zp5 hT he (d := d) (fun r c hrc => by simpa using hr.cells (Z7c hd) hμ 0 d rfl r c hrc) h)
  ·exact h.elim
 case p k sz i off =>
  simp only [ldP] at h
  split at h
  ·rename_i sz' es hd
   split at h
   ·rename_i hsz
    obtain rfl := Nat.eq_of_beq_eq_true hsz;obtain ⟨e1, he1, hk⟩ := h.out
    cases hv with
    | cl _ _ hc => cases hc
    | p _ _ _ _ b m hμ => exact fin _ rfl (Z7s hT he (fun r c hrc => hr.cells (Z5f hd) hμ i e1 he1 r c hrc) hk)
   ·exact h.elim
  ·rename_i sz' es hd
   split at h
   ·rename_i hsz
    obtain rfl := Nat.eq_of_beq_eq_true hsz;obtain ⟨e1, he1, hk⟩ := h.out
    cases hv with
    | cl _ _ hc => cases hc
    | p _ _ _ _ b m hμ => exact fin _ rfl (Z7s hT he (fun r c hrc => hr.cells (Z8e hd) hμ i e1 he1 r c hrc) hk)
   ·exact h.elim
  ·exact h.elim
 case ip sz es i off =>
  obtain ⟨e1, he1, hk⟩ := h.out
  cases hv with
  | cl _ _ hc =>
   cases hc with
   | ip _ _ b o _ _ val hz hf hv => exact fin _ rfl (Z7s hT he (fun r c hrc => ⟨_, (hr.frz _ _ _ (hf i e1 r c he1 hrc).1).1, (hf i e1 r c he1 hrc).2, .cl _ _ (hv i e1 r c he1 hrc)⟩) hk)
 case cb d off =>
  simp only [ldP] at h
  cases hv with
  | cl _ _ hc =>
   cases hc with
   | cb _ b o _ val hf hv => exact fin _ rfl (Z7s hT he (fun r c hrc => ⟨_, (hr.frz _ _ _ (hf r c hrc).1).1, (hf r c hrc).2, .cl _ _ (hv r c hrc)⟩) h)
end
end Go.Abs

/- Part TxAR of the proofs about the benches of the accordion maker: see the last text of the claim for what is proved. -/
import Derived.Test.YtggilmnhgjofiaaGreatTxAQ
set_option linter.unusedVariables false
set_option linter.unusedSimpArgs false
set_option linter.unnecessarySimpa false
set_option linter.constructorNameAsVariable false

namespace Go.Abs
open Go
section
variable {P : Program} {T : TT} {F : Fz} {μ : Mu} {w : World} {r : Option Nat} {m : Nat} {Q : AX -> St -> Prop}
theorem Z9k {A : Ar} {agg : Bool} {n off : Nat} {K1 K2 : D -> Prop} (hK : ∀ d, K1 d -> K2 d) {d : D} (h : ldD A agg n off K1 d) : ldD A agg n off K2 d := by
 unfold ldD at h ⊢
 repeat' (split at h)
 all_goals first
  | exact h.elim
  | exact hK _ h
  | exact ⟨h.1, hK _ h.2⟩
  | exact ⟨let ⟨x, g1, g2⟩ := h.out; ⟨x, g1, hK _ g2⟩⟩
theorem Zry {A : Ar} {agg : Bool} {off : Nat} {K1 K2 : D -> Prop} (hK : ∀ d, K1 d -> K2 d) {d : D} (h : ldS A agg off K1 d) : ldS A agg off K2 d := by
 unfold ldS at h ⊢
 repeat' (split at h)
 all_goals first
  | exact h.elim
  | exact ⟨let ⟨x, g1, g2⟩ := h.out; ⟨x, g1, hK _ g2⟩⟩
theorem Zrz {A : Ar} {H : List Blk} {agg : Bool} {n : Nat} {K1 K2 : D -> Prop} (hK : ∀ d, K1 d -> K2 d) {d : D} (h : ldP A H agg n K1 d) : ldP A H agg n K2 d := by
 unfold ldP at h ⊢
 split at h
 ·split at h
  ·exact Z9k hK h
  ·exact h.elim
 ·split at h
  ·exact Zry hK h
  ·exact h.elim
 ·split at h
  ·split at h
   ·exact ⟨let ⟨x, g1, g2⟩ := h.out; ⟨x, g1, Z9k hK g2⟩⟩
   ·exact h.elim
  ·split at h
   ·exact ⟨let ⟨x, g1, g2⟩ := h.out; ⟨x, g1, Z9k hK g2⟩⟩
   ·exact h.elim
  ·exact h.elim
 ·exact ⟨let ⟨x, g1, g2⟩ := h.out; ⟨x, g1, Z9k hK g2⟩⟩
 ·exact Z9k hK h
 ·exact h.elim
theorem Zpp {S : Stop} (hS : S = Zo P r m) {ops : Array Oper} {i : Nat} {l : List Nat} {o : Oper} {s : St} {c : Call} {fo : Operand} {k : Nat} {as0 : List D} (k' : Nat) (as' : List D) (ix : List Nat) (Hf : List Blk)
  (hoi : ops[i]? = some o) (hd : Z36 s.nt o.dst = true) (hg : o.guard = none) (ho : o.op = .call c) (hc : c.callee = .value fo) (hfo : evo s.env fo = some (.yv k)) (hkk : Z9f ix k' = some k) (has : Z34 (c.args.toList.map (evo s.env)) = some as0)
  (hren : renL (rho ix s.H.length) as' = as0) (hnd : ix.Nodup) (hl : Z62 (rho ix s.H.length) s.H ix Hf)
  (h : RoundA P k' as' Hf (fun x Hf' => match x with | .ret d => OpsA P r m ops Q l (s.step o.dst (renD (rho ix s.H.length) d) (Z10 s.H ix Hf') s.dfs) | .pan _ => False)) : S.ops ops Q (i :: l) s := by
 subst hS;refine Z3k hoi hd ?_;simp only [Zh, hg];refine Zpo ho hc hfo hkk has hren hnd hl ⟨fun r F μ vs w b m h1 h2 h3 h4 => ?_⟩;obtain ⟨fn, tmps, assign, body, g1, g2⟩ := h.out r F μ vs w b m h1 h2 h3 h4;refine ⟨fn, tmps, assign, body, g1, Z1wt.mono g2 fun e w' he => ?_⟩
 cases e with
 | returned v => exact he
 | panicked ch => obtain ⟨_, _, _, _, _, _, _, _, hf⟩ := he; exact hf.elim
 | outgrown => exact he.elim
def Z26k : Option Code -> Option AX
 | none => some .normal
 | some (.exit id) => some (.exit id)
 | some (.goto l) => some (.goto l)
 | some .ret => some .ret
 | _ => none
theorem Z1x6 {f : FuncId} {fo : Operand} {caps as' : List D} {params : Array Tmp} {assign body : Code} {s : St} {k : Nat} {ds : List AD} (ix : List Nat) (Hf : List Blk)
  (hfo : evo s.env fo = some (.fn f caps)) (hd : s.dfs = .mk k :: ds) (hren : renL (rho ix (s.H.length + 1)) as' = .yv s.H.length :: caps)
  (hnd : ix.Nodup) (hl : Z62 (rho ix (s.H.length + 1)) (s.H ++ [.ob (.lp .ready none s.env s.nt params.toList assign body)]) ix Hf)
  (h : CallA P f as' Hf (fun x Hf' => match x with
   | .ret _ => ∃ st pend env x, st ≠ .busy /\ Z1m (Z10 (s.H ++ [.ob (.lp .ready none s.env s.nt params.toList assign body)]) ix Hf') s.H.length = some (.ob (.lp st pend env s.nt params.toList assign body)) /\ Z26k pend = some x /\
     Q x { s with H := (Z10 (s.H ++ [.ob (.lp .ready none s.env s.nt params.toList assign body)]) ix Hf').set s.H.length .dead }
   | .pan _ => False)) : WpA P none m (.rangeFunc fo params assign body) Q s := by
 refine ⟨fun F μ a w h1 => Z1zv fun fid n0 => ?_⟩
 suffices hx : ∃ (l : Nat) (mark : List Deferred) (w₁ : World) (d : Deferred) (w₁' : World) (f : FuncId) (args : Array Value) (w₂ : World), (Instr.enterLoop fid a.tmps params assign body none).run P (w.at n0) = .ok (l, mark) w₁ /\
   (resolve a.eval (rangeCall fo l) 0).run P w₁ = .ok d w₁' /\ (invoke d.target d.args).run P w₁' = .ok (.enter f args) w₂ /\ Z1uv ((invoke d.target d.args).events P w₁' #[]) /\
   Z1vt P f args w₂ (Z1wu P none l (Z4f F μ s.H (w.at n0) m Q) { a with defers := mark ++ a.defers }) by
  obtain ⟨l, mark, w₁, d, w₁', f, args, w₂, e1, e2, e3, e4, e5⟩ := hx;exact ⟨l, mark, w₁, d, w₁', f, args, w₂, e1, e2, e3, e4, e5.mono fun e w' he => Z1yq (fun _ _ _ hp => Z4f.ofAt (n := n0) hp) he⟩
 have h1 := h1.at n0
 revert h1
 generalize w.at n0 = w
 intro h1;obtain ⟨fn, hf, hb, hnm⟩ := h.fn;have hfv := h1.er.evo hfo;obtain ⟨caps', hfe, hcl, hcv⟩ : ∃ caps' : Array Value, a.eval fo = .func (.func f) #[] caps' /\ caps.length = caps'.size /\ ∀ (i : Nat) (c : D) (v : Value), caps[i]? = some c -> caps'[i]? = some v -> VR F μ c v := by
  generalize a.eval fo = y at hfv
  cases hfv with
  | cl _ _ hc => cases hc with | fn _ _ vs hl h => exact ⟨vs, rfl, hl, fun i c v h1 h2 => .cl _ _ (h i c v h1 h2)⟩
  | fn _ _ vs hl h => exact ⟨vs, rfl, hl, h⟩
 have hadr := h1.er.dfs;rw [hd] at hadr;obtain ⟨cs, ds', g1, g2, g3, gn, g4, g5⟩ := hadr
 let b0 := w.heap.size
 let rec0 : Loop := { state := .ready, pending := none, fn := fid, tmps := a.tmps, params, assign, body, defers := b0 }
 let w1 : World := (w.alloc (.deferred (some []))).alloc (.loop rec0)
 let μ1 : Mu := ⟨fun j => if j = s.H.length then some (some (b0 + 1, 0)) else μ j, fun j b => μ.inn j b ∨ (j = k /\ b = b0)⟩
 let H1 : List Blk := s.H ++ [.ob (.lp .ready none s.env s.nt params.toList assign body)]
 have hkl := Z2p g3;have hne : k ≠ s.H.length := by omega
 have hmono : ∀ j y, μ j = some y -> μ1 j = some y := fun j y hj => by
  show (if j = s.H.length then _ else μ j) = _;rw [if_neg]; exact hj;rintro rfl; rw [h1.hr.dom _ (Nat.le_refl _)] at hj; cases hj
 have hat : μ1 s.H.length = some (some (b0 + 1, 0)) := if_pos rfl;have hoth : ∀ j, j ≠ s.H.length -> μ1 j = μ j := fun j hj => if_neg hj;have hnn : ∀ b, ¬ μ.inn s.H.length b := h1.hr.non _ (h1.hr.dom _ (Nat.le_refl _));have hw1 : w1.heap.size = w.heap.size + 2 := by simp [w1]
 have hp0 : ∀ b, b < w.heap.size -> w1.heap[b]? = w.heap[b]? := fun b hb => by
  show ((w.heap.push _).push _)[b]? = _;rw [Array.getElem?_push, if_neg (by simp; omega), Array.getElem?_push, if_neg (by omega)]
 have hp1 : w1.heap[b0]? = some (.deferred (some [])) := by
  show ((w.heap.push _).push _)[b0]? = _;rw [Array.getElem?_push, if_neg (by simp [b0]), Array.getElem?_push, if_pos rfl]
 have hp2 : w1.heap[b0 + 1]? = some (.loop rec0) := by
  show ((w.heap.push _).push _)[b0 + 1]? = _;rw [Array.getElem?_push, if_pos (by simp [b0])]
 have get1 : ∀ j, j ≠ s.H.length -> H1[j]? = s.H[j]? := fun j hj => by
  by_cases hlt : j < s.H.length
  ·exact List.getElem?_append_left hlt
  ·rw [List.getElem?_eq_none (by simp [H1]; omega), List.getElem?_eq_none (by omega)]
 have get2 : H1[s.H.length]? = some (.ob (.lp .ready none s.env s.nt params.toList assign body)) := by simp [H1]
 have hobk : Z13 H1 k = some .mk := by unfold Z13; rw [get1 k hne]; exact g3
 have hmkmk := h1.hr.obj k .mk g3 (by rw [gn]; simp);have hlvk := Z2j g3;have foot : ∀ j b, (j = k ∨ j = s.H.length) -> Z40 μ1 j b -> (j = k /\ (μ.inn k b ∨ b = b0)) ∨ (j = s.H.length /\ b = b0 + 1) := fun j b hj hf => by
  rcases hj with rfl | rfl
  ·rcases hf with ⟨m, hm⟩ | hi
   ·rw [hoth j hne, gn] at hm; cases hm
   ·rcases hi with hi | ⟨-, hi⟩
    ·exact .inl ⟨rfl, .inl hi⟩
    ·exact .inl ⟨rfl, .inr hi⟩
  ·rcases hf with ⟨m, hm⟩ | hi
   ·rw [hat] at hm; cases hm; exact .inr ⟨rfl, rfl⟩
   ·rcases hi with hi | ⟨hi, -⟩
    ·exact absurd hi (hnn b)
    ·exact absurd hi.symm hne
 have innlt : ∀ b, μ.inn k b -> b < w.heap.size := fun b hb => h1.hr.lt b ⟨k, hlvk, .inr hb⟩;obtain ⟨r1, r2, -⟩ : HR F μ1 H1 w1 /\ Post F μ s.H w F μ1 H1 w1 /\ ∀ j y, μ j = some y -> μ1 j = some y := by
  refine Z5e (fun j => j = k ∨ j = s.H.length) h1.hr (by simp [H1]) (fun j hj => get1 j (fun e => hj (.inr e))) (fun j hj => hoth j (fun e => hj (.inr e))) (fun j b hj => ⟨fun hb => hb.resolve_right fun e => hj (.inl e.1), .inl⟩) (fun j _ y hy => hmono j y hy) (by rw [hw1]; omega) rfl rfl rfl
   (fun b hb _ => hp0 b hb) (fun j b hj hl hf => ?_) (fun j j' b hj hj' hl hl' hf hf' => ?_) (fun j hj hle => ?_) (fun _ j sz es hj hb _ => ?_) (fun j y hj hb b => ?_) (fun hm j x hj hx _ => ?_) (fun j hj he => ?_) (fun j x hj hx => ?_)
  ·rcases foot j b hj hf with ⟨rfl, hb | hb⟩ | ⟨rfl, hb⟩
   ·exact .inl ⟨j, .inl rfl, hlvk, .inr hb⟩
   ·exact .inr ⟨by rw [hb]; exact Nat.le_refl _, by rw [hb, hw1]; omega⟩
   ·exact .inr ⟨by rw [hb]; omega, by rw [hb, hw1]; omega⟩
  ·rcases foot j b hj hf with ⟨rfl, hb⟩ | ⟨rfl, hb⟩ <;> rcases foot j' b hj' hf' with ⟨rfl, hb'⟩ | ⟨rfl, hb'⟩
   ·rfl
   ·exfalso
    rcases hb with hb | hb
    ·have := innlt b hb; omega
    ·omega
   ·exfalso
    rcases hb' with hb' | hb'
    ·have := innlt b hb'; omega
    ·omega
   ·rfl
  ·rcases hj with rfl | rfl <;> simp [H1] at hle <;> omega
  ·rcases hj with rfl | rfl
   ·rw [Z6w hobk] at hb; cases hb
   ·rw [Z1s get2] at hb; cases hb
  ·rcases hj with rfl | rfl
   ·rw [Z6w hobk] at hb; cases hb
   ·rw [Z1s get2] at hb; cases hb
  ·rcases hj with rfl | rfl
   ·rw [hobk] at hx; cases hx;refine ⟨by rw [hoth _ hne]; exact gn, fun c hc => ?_⟩;rcases hc with hc | ⟨-, rfl⟩
    ·rw [hp0 c (innlt c hc)]; exact hmkmk.2 c hc
    ·exact hp1
   ·rw [Z19 get2] at hx; cases hx;exact ⟨b0 + 1, rec0, hat, hp2, rfl, rfl, rfl, rfl, rfl, h1.er.nt, fun t d ht => let ⟨v, a1, a2⟩ := h1.er.env t d ht; ⟨v, a1, a2.mono (fun _ _ _ e => e) hmono⟩, fun c hc => hc.elim (fun e => hnn c e) (fun e => hne e.1.symm)⟩
  ·rcases hj with rfl | rfl
   ·rw [hoth _ hne, gn] at he; cases he
   ·rw [hat] at he; cases he
  ·rcases hj with rfl | rfl
   ·rw [get1 _ hne] at hx; exact h1.hr.fr _ x hx
   ·rw [get2] at hx; cases hx; exact fun _ _ e => by cases e
 have hinn : ∀ j c, μ.inn j c -> μ1.inn j c := fun j c hc => .inl hc;have k1 : Kp m μ s.H μ1 H1 := ⟨fun i hi => hoth i (by have := h1.len; omega), fun i hi hk => ⟨Z41 _ hk, fun c hc => hinn i c hc⟩⟩;have hlenH1 : H1.length = s.H.length + 1 := by simp [H1]
 have hlent : Lent H1 ix Hf := by
  have e := Z11 hl;rw [<- hlenH1] at e;exact ⟨hnd, e.1, e.2, Zab e.1 e.2 r1⟩
 refine ⟨b0 + 1, [{ target := .collected b0, args := #[] }], w1, { target := .fn (.func f) caps', args := #[.func (.yield (b0 + 1)) #[] #[]] }, w1, f, #[.func (.yield (b0 + 1)) #[] #[]] ++ caps', w1, ?_, ?_, ?_, ?_, ?_⟩
 ·exact run_enterLoop_outer (P := P) (w := w) fid a.tmps params assign body
 ·have e : Array.map a.eval #[Operand.const (Value.func (.yield (b0 + 1)) #[] #[])] = #[Value.func (.yield (b0 + 1)) #[] #[]] := by simp [Act.eval]
  simp only [resolve, rangeCall, hfe, Deferred.ofValue, Sem.run_bind, Sem.run_pure, Result.andThen_ok, Array.empty_append, e]
 ·show (callFunc f _).run P w1 = _;exact Z8m hf hb hnm _ _
 ·show Z1uv ((callFunc f _).events P w1 #[]);rw [Z1w4 hf hb hnm];exact .nil
 have hcall := h.out F (μ1.ren (rho ix H1.length)) (#[.func (.yield (b0 + 1)) #[] #[]] ++ caps') w1 (Zac hlent r1) (by
   have h1 := congrArg List.length hren
   rw [Zk] at h1
   rw [h1]; simp; omega) (fun i d v hd hv => by
   have h2 : (D.yv s.H.length :: caps)[i]? = some (renD (rho ix H1.length) d) := by rw [hlenH1, <- hren, Z1g, hd]; rfl
   refine Z2x ?_ d rfl
   match i, h2, hv with
   | 0, h2, hv =>
    have e2 : Value.func (.yield (b0 + 1)) #[] #[] = v := by
     rw [Array.getElem?_append_left (by simp)] at hv
     simpa using hv
    have e3 : D.yv s.H.length = renD (rho ix H1.length) d := by simpa using h2
    rw [<- e2, <- e3]; exact .yv _ _ _ hat
   | i + 1, h2, hv =>
    have h3 : caps[i]? = some (renD (rho ix H1.length) d) := by simpa using h2
    have h4 : caps'[i]? = some v := by rw [<- hv]; rw [Array.getElem?_append_right (by simp)]; simp
    exact (hcv i _ v h3 h4).mono (fun _ _ _ e => e) hmono)
 refine Z1vt.mono hcall fun e w2 he => ?_
 cases e with
 | returned v =>
  obtain ⟨F2, μ2, H2, d, hs, hv, st, pend, env, x, hst, hlp, hjx, hq⟩ := he;intro n1;have hs := hs.toAt n1
  revert hs
  generalize w2.at n1 = w2
  intro hs;have hst2 := Z6q hlent r1 hs;have hob := Z42 hlp;have hμb : Z1v μ1 ix H1.length μ2 s.H.length = some (some (b0 + 1, 0)) := by rw [hst2.same _ (by omega)]; exact hat
  obtain ⟨b', rec2, i1, i2, i3, i4, i5, i6, i8, i9, i10, i7⟩ := hst2.hr.obj _ _ hob (by rw [hμb]; simp);rw [hμb] at i1; cases i1;have hbusy : rec2.state ≠ .busy := by rw [i3]; exact hst
  refine ⟨pend, _, by rw [run_endLoop (P := P) i2 hbusy]; exact congrArg (fun j => Result.ok j _) i4, ?_⟩;obtain ⟨u1, u2⟩ := Zbc hst2.hr (y := .lp .exhausted pend env s.nt params.toList assign body) (o := .loop { rec2 with state := .exhausted }) hob hμb i7 (w' := w2.putObj (b0 + 1) (.loop { rec2 with state := .exhausted })) rfl rfl rfl rfl (fun hb => ⟨_, _, hμb, hb, rfl, i4, i5, i6, i8, i9, i10, i7⟩);obtain ⟨v1, v2⟩ := Zns u1 (k := s.H.length) (by have := Z2p hob; simpa using this);rw [List.set_set] at v1 v2;have hmk2 : ∀ i, Z13 (Z10 H1 ix H2) i = some .mk -> Z13 ((Z10 H1 ix H2).set s.H.length .dead) i = some .mk := fun i hi => Z48 (y := .mk) hob (by intro e; cases e) _ hi;have postf := ((r2.trans hst2.post).trans u2).trans v2;have keepf : Kp m μ s.H (Z1v μ1 ix H1.length μ2) ((Z10 H1 ix H2).set s.H.length .dead) := (k1.trans (hst2.keep (by have := h1.len; omega))).trans (.ob hmk2);have hmono2 : ∀ j y, μ j = some y -> Z1v μ1 ix H1.length μ2 j = some y := fun j y hj => by
   rw [hst2.same j]
   ·exact hmono j y hj
   ·apply Nat.lt_of_not_le; intro hle
    rw [h1.hr.dom j (by omega)] at hj; cases hj
  have mk2 : ∀ i, Z13 s.H i = some .mk -> Z13 ((Z10 H1 ix H2).set s.H.length .dead) i = some .mk /\ ∀ c, μ.inn i c -> (Z1v μ1 ix H1.length μ2).inn i c := fun i hi =>
   ⟨hmk2 i (hst2.mks i (Z41 _ hi)).1, fun c hc => (hst2.mks i (Z41 _ hi)).2 c (hinn i c hc)⟩
  have hrlf : RL m F2 (Z1v μ1 ix H1.length μ2) { s with H := (Z10 H1 ix H2).set s.H.length .dead } { a with defers := [{ target := .collected b0, args := #[] }] ++ a.defers } (w2.putObj (b0 + 1) (.loop { rec2 with state := .exhausted })) := ?_
  ·have fin : ∀ (e : Exit), XR F2 (Z1v μ1 ix H1.length μ2) e x -> Z4f F μ s.H w m Q e { a with defers := [{ target := .collected b0, args := #[] }] ++ a.defers } (w2.putObj (b0 + 1) (.loop { rec2 with state := .exhausted })) := fun e hx =>
    ⟨F2, Z1v μ1 ix H1.length μ2, { s with H := (Z10 H1 ix H2).set s.H.length .dead }, x, postf, keepf, hrlf, hx, hq⟩
   cases pend with
   | none => cases hjx; exact fin .normal trivial
   | some c =>
    cases c <;> first | (cases hjx; done) | skip
    case exit id => cases hjx; exact Z20y (fin (.exit id) rfl)
    case goto l => cases hjx; exact Z242 (fin (.goto l) rfl)
    case ret => cases hjx; exact Z22r (fin .ret trivial)
  refine ⟨v1, ⟨fun t d ht => ?_, h1.er.nt, ?_⟩, ?_⟩
  ·obtain ⟨v, a1, a2⟩ := h1.er.env t d ht;exact ⟨v, a1, a2.mono postf.mono hmono2⟩
  ·show ADR _ _ _ s.dfs _;rw [hd];refine ⟨b0 :: cs, ds', by rw [g1]; rfl, List.nodup_cons.2 ⟨fun hb => ?_, g2⟩, (mk2 k g3).1, hmono2 _ _ gn, fun c hc => ?_, g5.mono postf.mono hmono2 mk2⟩
   ·have := innlt b0 (g4 b0 hb); omega
   ·rcases List.mem_cons.1 hc with rfl | hc
    ·exact (hst2.mks k hobk).2 _ (.inr ⟨rfl, rfl⟩)
    ·exact (mk2 k g3).2 c (g4 c hc)
  ·have := hst2.len;have := h1.len;simp; omega
 | panicked ch => obtain ⟨_, _, _, _, _, _, _, _, hf⟩ := he; exact hf.elim
 | outgrown => exact he.elim
theorem Zgb {f : FuncId} {fo : Operand} {caps as' : List D} {params : Array Tmp} {assign body : Code} {s : St} {k : Nat} {ds : List AD} (ix : List Nat) (Hf : List Blk)
  (hfo : evo s.env fo = some (.fn f caps)) (hd : s.dfs = .mk k :: ds) (hren : renL (rho ix (s.H.length + 1)) as' = .yv s.H.length :: caps)
  (hnd : ix.Nodup) (hl : Z62 (rho ix (s.H.length + 1)) (s.H ++ [.ob (.lp .ready none s.env s.nt params.toList assign body)]) ix Hf)
  (h : CallA P f as' Hf (fun x Hf' => match x with
   | .ret _ => (∃ st env, st ≠ .busy /\ Z1m (Z10 (s.H ++ [.ob (.lp .ready none s.env s.nt params.toList assign body)]) ix Hf') s.H.length = some (.ob (.lp st none env s.nt params.toList assign body))) /\
     Q .normal { s with H := (Z10 (s.H ++ [.ob (.lp .ready none s.env s.nt params.toList assign body)]) ix Hf').set s.H.length .dead }
   | .pan _ => False)) : WpA P none m (.rangeFunc fo params assign body) Q s := by
 refine Z1x6 ix Hf hfo hd hren hnd hl ⟨h.fn, fun F μ vs w h1 h2 h3 => Z1vt.mono (h.out F μ vs w h1 h2 h3) fun e w' he => ?_⟩
 cases e with
 | returned v =>
  obtain ⟨F', μ', H', d, hs, hv, ⟨st, env, g1, g2⟩, hq⟩ := he;exact ⟨F', μ', H', d, hs, hv, st, none, env, .normal, g1, g2, rfl, hq⟩
 | panicked ch => exact he
 | outgrown => exact he
def Zwd (A : Ar) (T : TT) (rs : List ResultVar) (Q : RA -> List Blk -> Prop) (k : Nat) : AX -> St -> Prop
 | .normal, s => s.dfs = [.mk k] /\ Zih A T { s with H := s.H.set k .dead } (fun d => Q (.ret d) (s.H.set k .dead)) rs
 | .ret, s => s.dfs = [.mk k] /\ Zih A T { s with H := s.H.set k .dead } (fun d => Q (.ret d) (s.H.set k .dead)) rs
 | .pan d, s => s.dfs = [.mk k] /\ Q (.pan d) (s.H.set k .dead)
 | _, _ => False
theorem Zcf {fn : Func} {tmps : Array Value} {R : Ending -> World -> Prop} {u : FrameMode} (hu : u ≠ .run) : ∀ (cs : List Nat) (w : World), cs.Nodup -> (∀ c ∈ cs, w.heap[c]? = some (.deferred (some []))) ->
  (∀ w', w'.heap.size = w.heap.size -> (∀ b, b ∉ cs -> w'.heap[b]? = w.heap[b]?) -> w'.tape = w.tape -> w'.os = w.os -> w'.output = w.output -> Z1vn P fn tmps R [] u w') ->
  Z1vn P fn tmps R (cs.map fun c => { target := .collected c, args := #[] }) u w
 | [], w, _, _, h => h w rfl (fun _ _ => rfl) rfl rfl rfl
 | c :: cs, w, hn, hd, h => by
  obtain ⟨h1, h2⟩ := List.nodup_cons.1 hn;have hc := hd c (by simp);refine ⟨hu, c, w.putObj c (.deferred none), rfl, fun n => run_takeDeferred (P := P) (w := w.at n) hc, Zcf hu cs _ h2 (fun c' hc' => ?_) fun w' e1 e2 e3 e4 e5 => ?_⟩
  ·rw [World.putObj_heap_other (by rintro rfl; exact h1 hc')]; exact hd c' (by simp [hc'])
  ·refine h w' (by rw [e1]; simp) (fun b hb => ?_) e3 e4 e5;simp only [List.mem_cons, not_or] at hb;rw [e2 b hb.2, World.putObj_heap_other hb.1]
theorem Zkb (hT : TOK P T) {f : FuncId} {fn : Func} {c : Code} (hf : P.funcs[f]? = some fn) (hb : fn.body = some c) (hnm : (fn.name == "runtime.NumGoroutine") = false) {as : List D} {H : List Blk} {Q : RA -> List Blk -> Prop} (hnt : Nat.ble as.length fn.ntmps = true)
  (h : WpA P none H.length c (Zwd ar T fn.results.toList Q H.length) { env := Zd6 0 as, H := H ++ [.ob .mk], nt := fn.ntmps, dfs := [.mk H.length] }) : CallA P f as H Q := by
 refine ⟨⟨fn, hf, by rw [hb]; rfl, hnm⟩, fun F μ vs w hr hl hv => ?_⟩;have hle := Nat.le_of_ble_eq_true hnt
 let μ1 : Mu := Z4v μ H.length none
 have hn : μ H.length = none := hr.dom _ (Nat.le_refl _);have hat : μ1 H.length = some none := Z6h _ _ _;have hget : (H ++ [Blk.ob .mk])[H.length]? = some (.ob .mk) := by simp
 have nf : ∀ b, ¬ Z40 μ1 H.length b := fun b hf => by
  rcases hf with ⟨m, hm⟩ | hi
  ·rw [hat] at hm; cases hm
  ·exact hr.non _ hn b hi
 obtain ⟨r1, r2, hmono⟩ := Z5e (μ' := μ1) (w' := w) (H' := H ++ [.ob .mk]) (fun j => j = H.length) hr (by simp) (fun k hk => by
   by_cases hlt : k < H.length
   ·rw [List.getElem?_append_left hlt]
   ·rw [List.getElem?_eq_none (by simp; omega), List.getElem?_eq_none (by omega)]) (fun j hj => Z2k _ hj) (fun _ _ _ => Iff.rfl) (fun j hj y hy => by subst hj; rw [hn] at hy; cases hy) (Nat.le_refl _) rfl rfl rfl (fun _ _ _ => rfl)
  (fun k b hk _ hf => by subst hk; exact absurd hf (nf b)) (fun k1 k2 b h1 h2 _ _ _ _ => h1.trans h2.symm) (fun k hk hle => by subst hk; simp at hle; omega) (fun _ k sz es hk hb _ => by subst hk; rw [Z1s hget] at hb; cases hb)
  (fun k y hk _ b => by subst hk; exact hr.non _ hn b) (fun _ k y hk hy hne => by subst hk; rw [Z19 hget] at hy; cases hy; exact ⟨hat, fun c hc => absurd hc (hr.non _ hn c)⟩) (fun k hk _ => by subst hk; exact hr.non _ hn) (fun k y hk hy => by
   subst hk; rw [hget] at hy; cases hy; exact fun _ _ e => by cases e)
 refine Z1yg hf hb (Z1us (h.out F μ1 _ w ⟨r1, ⟨fun t d ht => ?_, ?_, ⟨[], [], rfl, List.nodup_nil, Z19 hget, hat, fun c hc => by simp at hc, rfl⟩⟩, by simp⟩) fun e a' w' hp => ?_)
 ·obtain ⟨-, h2⟩ := Z9h 0 as t d ht;rw [Nat.sub_zero] at h2;have hlt : t < vs.size := by rw [<- hl]; exact (List.getElem?_eq_some_iff.1 h2).1
  refine ⟨vs[t], ?_, (hv t d _ h2 (Array.getElem?_eq_getElem hlt)).mono (fun _ _ _ e => e) hmono⟩;rw [Array.getElem?_append_left hlt, Array.getElem?_eq_getElem hlt]
 ·simp; omega
 ·obtain ⟨F', μ', s', x, p1, p2, p3, p4, p5⟩ := hp;have post : Post F μ H w F' μ' s'.H w' := r2.trans p1;have keep : Kp H.length μ H μ' s'.H := (⟨fun i hi => Z2k _ (by omega), fun i hi hk => ⟨Z41 _ hk, fun _ e => e⟩⟩ : Kp H.length μ H μ1 (H ++ [.ob .mk])).trans p2;have body : ∀ (u : FrameMode), u ≠ .run -> s'.dfs = [.mk H.length] -> (∀ w2, HR F' μ' (s'.H.set H.length .dead) w2 -> Stp F μ H w F' μ' (s'.H.set H.length .dead) w2 -> Z1vn P fn a'.tmps (Zb7 F μ H w Q) [] u w2) ->
    Z1vn P fn a'.tmps (Zb7 F μ H w Q) a'.defers u w' := fun u hu hd hk => by
   have hadr := p3.er.dfs;rw [hd] at hadr;obtain ⟨cs, ds', g1, g2, g3, gn, g4, rfl⟩ := hadr;rw [g1, List.append_nil];have hmk := p3.hr.obj _ _ g3 (by rw [gn]; simp);refine Zcf hu cs w' g2 (fun c hc => hmk.2 c (g4 c hc)) fun w2 e1 e2 e3 e4 e5 => ?_;have hkl := Z2p g3;have hset : ∀ j, (s'.H.set H.length Blk.dead)[j]? = if j = H.length then some Blk.dead else s'.H[j]? := fun j => by
    have := Z2m (H := s'.H) Blk.dead (Nat.le_of_lt hkl) j
    rwa [Z4l, if_pos hkl] at this
   have hdd : Z20 (s'.H.set H.length Blk.dead) H.length = false := by rw [Z6x (by rw [hset, if_pos rfl])]; rfl
   obtain ⟨q1, q2, -⟩ := Z5e (μ' := μ') (w' := w2) (H' := s'.H.set H.length .dead) (fun j => j = H.length) p3.hr (by simp) (fun j hj => by rw [hset, if_neg hj]) (fun j _ => rfl) (fun j b _ => Iff.rfl) (fun _ _ _ h => h) (by omega) e3 e4 e5
    (fun b' hb' hn => e2 b' (fun hc => hn _ rfl (Z2j g3) (.inr (g4 b' hc)))) (fun k' b' hk' hlv _ => by subst hk'; rw [hdd] at hlv; cases hlv) (fun k1 k2 b h1 h2 _ _ _ _ => h1.trans h2.symm)
    (fun k' hk' hle' => by subst hk'; simp at hle'; omega) (fun _ k' sz1 es1 hk' hb1 _ => by subst hk'; have := Z15 hb1; rw [hdd] at this; cases this) (fun k' y hk' hb1 b => by subst hk'; have := Z15 hb1; rw [hdd] at this; cases this) (fun _ k' y hk' hy _ => by subst hk'; have := Z2j hy; rw [hdd] at this; cases this) (fun k' hk' he => by subst hk'; exact p3.hr.non _ he) (fun k' y hk' hy => by
     subst hk'; rw [hset, if_pos rfl] at hy; cases hy; exact fun _ _ e => by cases e)
   have keep2 : Kp H.length μ H μ' (s'.H.set H.length .dead) := keep.trans ⟨fun _ _ => rfl, fun i hi hk => ⟨by unfold Z13 at hk ⊢; rw [hset, if_neg (by omega)]; exact hk, fun _ e => e⟩⟩;have hlen := p3.len;exact hk w2 q1 ((post.trans q2).stp keep2 q1 (by simpa using hlen))
  have fin : s'.dfs = [.mk H.length] /\ Zih ar T { s' with H := s'.H.set H.length .dead } (fun d => Q (.ret d) (s'.H.set H.length .dead)) fn.results.toList -> Z1vn P fn a'.tmps (Zb7 F μ H w Q) a'.defers .returning w' := fun ⟨h1, h2⟩ => by
   refine body .returning (by simp) h1 fun w2 q1 hs => ?_;have her : ER F' μ' { s' with H := s'.H.set H.length .dead, dfs := [] } { a' with defers := [] } := ⟨p3.er.env, p3.er.nt, rfl⟩;have h2' : Zih ar T { s' with H := s'.H.set H.length .dead, dfs := [] } (fun d => Q (.ret d) (s'.H.set H.length .dead)) fn.results.toList := by
    have gen : ∀ (rs : List ResultVar) (K : List D -> Prop), Z7m ar T { s' with H := s'.H.set H.length .dead } rs K -> Z7m ar T { s' with H := s'.H.set H.length .dead, dfs := [] } rs K := fun rs => by
     induction rs with
     | nil => exact fun K h => h
     | cons x rs ih =>
      intro K h
      cases x with
      | tmp t =>
       simp only [Z7m, opt] at h ⊢
       split at h
       ·exact ih _ h
       ·exact h.elim
      | cell c t =>
       simp only [Z7m] at h ⊢
       split at h
       ·rename_i e p g1 g2
        exact Zrz (fun d hd => ih _ hd) h
       ·exact h.elim
    exact gen _ _ h2
   intro n;obtain ⟨d, v, g1, g2, g3⟩ := Zbi (a := { a' with defers := [] }) hT (q1.at n) her h2';exact ⟨v, g1, F', μ', _, d, hs, g2, g3⟩
  cases e <;> cases x <;> try exact p4.elim
  case normal.normal => exact fin p5
  case ret.ret => exact fin p5
  case panic.pan ch d =>
   obtain ⟨v, g1, g2⟩ := p4;exact body (.panicking ch) (by simp) p5.1 fun w2 q1 hs => ⟨F', μ', _, d, v, hs, g1, g2, p5.2⟩
  all_goals exact p5.elim
end
end Go.Abs

namespace Go.Abs
open Go
section
variable {P : Program} {T : TT} {r : Option Nat} {m : Nat} {Q : AX -> St -> Prop} {s : St}
theorem Zg {S : Stop} (hS : S = Zo P r m) {ops : Array Oper} {i : Nat} {l : List Nat} {o oj : Oper} {c : Call} {fo : Operand} {f : FuncId} {j t : Nat} {want b : Bool}
  (hoi : ops[i]? = some o) (hd : Z36 s.nt o.dst = true) (hg : o.guard = some (j, want)) (hj : ops[j]? = some oj) (hjd : oj.dst = some t) (hb : Z1c s.env t = some (.v (.bool b))) (ho : o.op = .call c) (hc : c.callee = .value fo)
  (hyes : b = want -> ∃ caps as0 as' ix Hf, evo s.env fo = some (.fn f caps) /\ Z34 (c.args.toList.map (evo s.env)) = some as0 /\ renL (rho ix s.H.length) as' = as0 ++ caps /\ ix.Nodup /\ Z62 (rho ix s.H.length) s.H ix Hf /\
   CallA P f as' Hf (fun x Hf' => match x with | .ret d => OpsA P r m ops Q l (s.step o.dst (renD (rho ix s.H.length) d) (Z10 s.H ix Hf') s.dfs) | .pan _ => False))
  (hno : b ≠ want -> OpsA P r m ops Q l (s.step o.dst (.tup []) s.H s.dfs)) : S.ops ops Q (i :: l) s := by
 subst hS;have run : b = want -> OpA P r o s (fun d H' ds => OpsA P r m ops Q l (s.step o.dst d H' ds)) (fun d H' => ∀ e, (∀ t d, Z1c e t = some d -> Z1c s.env t = some d) -> Q (.pan d) { s with env := e, H := H' }) := fun e => by
  obtain ⟨caps, as0, as', ix, Hf, hfo, has, hren, hnd, hl, h⟩ := hyes e;refine Z7t ho hc hfo has hren hnd hl ⟨h.fn, fun F μ vs w h1 h2 h3 => Z1vt.mono (h.out F μ vs w h1 h2 h3) fun e w' he => ?_⟩
  cases e with
  | returned v => exact he
  | panicked ch => obtain ⟨_, _, _, _, _, _, _, _, hf⟩ := he; exact hf.elim
  | outgrown => exact he.elim
 refine Z3k hoi hd ?_;simp only [Zh, hg, hj, hjd, hb]
 cases want <;> cases b <;> simp only [Z3l hb]
 ·exact run rfl
 ·exact hno (by decide)
 ·exact hno (by decide)
 ·exact run rfl
theorem Z9l {S : Stop} (hS : S = Zo P none m) {f : FuncId} {fo : Operand} {caps as' : List D} {params : Array Tmp} {assign body : Code} {k : Nat} {ds : List AD} (ix : List Nat) (Hf : List Blk) {pl : List Nat} (hpl : params.toList = pl)
  (hfo : evo s.env fo = some (.fn f caps)) (hd : s.dfs = .mk k :: ds) (hren : renL (rho ix (s.H.length + 1)) as' = .yv s.H.length :: caps)
  (hnd : ix.Nodup) (hl : Z62 (rho ix (s.H.length + 1)) (s.H ++ [.ob (.lp .ready none s.env s.nt pl assign body)]) ix Hf)
  (h : CallA P f as' Hf (fun x Hf' => match x with
   | .ret _ => (∃ st env, st ≠ .busy /\ Z1m (Z10 (s.H ++ [.ob (.lp .ready none s.env s.nt pl assign body)]) ix Hf') s.H.length = some (.ob (.lp st none env s.nt pl assign body))) /\
     Q .normal { s with H := (Z10 (s.H ++ [.ob (.lp .ready none s.env s.nt pl assign body)]) ix Hf').set s.H.length .dead }
   | .pan _ => False)) : S.code (.rangeFunc fo params assign body) Q s := by
 subst hS; subst hpl;exact Zgb ix Hf hfo hd hren hnd hl h
theorem Zip (hT : TOK P T) {A : Ar} (hA : A = ar) {f : FuncId} {fn : Func} {c : Code} (hf : P.funcs[f]? = some fn) (hb : fn.body = some c) (hnm : (fn.name == "runtime.NumGoroutine") = false) {as : List D} {H : List Blk} {Q : RA -> List Blk -> Prop} (hnt : Nat.ble as.length fn.ntmps = true) {rs : List ResultVar} (hrs : fn.results.toList = rs) {nt : Nat} (hnt2 : fn.ntmps = nt)
  (h : ∀ S, S = Zo P none H.length -> vcC A T S c (Zwd A T rs (ghQ H.length Q) H.length) { env := Zd6 0 as, H := H ++ [.ob .mk], nt := nt, dfs := [.mk H.length] }) : CallA P f as H Q := by
 subst hA; subst hrs; subst hnt2;exact Zcb (Zkb hT hf hb hnm hnt (Z4a hT c _ _ (h _ rfl)))
end
end Go.Abs

namespace Go.Abs
open Go
structure WkD (d d' : D) : Prop where
 out : ∀ F μ v, VR F μ d v -> VR F μ d' v
theorem WkD.rfl {d : D} : WkD d d := ⟨fun _ _ _ h => h⟩
theorem WkD.nil {sz : Nat} : WkD (.v (.slice none 0 0)) (.sl sz []) := ⟨fun _ _ _ h => by rw [h.v_inv]; exact .cl _ _ (.slE _ _ _)⟩
theorem WkD.z0 {sz : Nat} : WkD .z0 (.sl sz []) := ⟨fun _ _ _ h => by cases h with | cl _ _ hc => cases hc with | z0 a => exact .cl _ _ (.slE _ _ _)⟩
def WkL : List D -> List D -> Prop
 | [], [] => True
 | a :: l, b :: m => WkD a b /\ WkL l m
 | _, _ => False
theorem WkL.rfl : ∀ {l : List D}, WkL l l
 | [] => trivial
 | _ :: _ => ⟨.rfl, WkL.rfl⟩
theorem WkL.length : ∀ {l m : List D}, WkL l m -> l.length = m.length
 | [], [], _ => Eq.refl _
 | _ :: _, _ :: _, h => by simp [WkL.length h.2]
 | [], _ :: _, h => h.elim
 | _ :: _, [], h => h.elim
theorem WkL.get : ∀ {l m : List D}, WkL l m -> ∀ {i : Nat} {b : D}, m[i]? = some b -> ∃ a, l[i]? = some a /\ WkD a b
 | [], [], _, i, b, h => by simp at h
 | x :: l, y :: m, hw, i, b, h => by
  match i, h with
  | 0, h => simp at h; subst h; exact ⟨x, Eq.refl _, hw.1⟩
  | i + 1, h => obtain ⟨a, h1, h2⟩ := hw.2.get (i := i) (by simpa using h); exact ⟨a, by simpa using h1, h2⟩
 | [], _ :: _, h, _, _, _ => h.elim
 | _ :: _, [], h, _, _, _ => h.elim
theorem WkD.agg {cs ds : List D} (h : WkL cs ds) : WkD (.agg cs) (.agg ds) := ⟨fun F μ v hv => by
 obtain ⟨vs, rfl, hl, hr, ho⟩ := hv.agg_inv
 exact .agg _ _ (by rw [<- h.length]; exact hl) (fun i c v hc hv => by
  obtain ⟨a, h1, h2⟩ := h.get hc
  exact h2.out _ _ _ (hr i a v h1 hv)) ho⟩
section
variable {P : Program} {T : TT} {r : Option Nat} {m : Nat} {Q : AX -> St -> Prop} {F : Fz} {μ : Mu} {w : World}
theorem Zun {s : St} {a : Act} {t : Nat} {d d' : D} (ht : Z1c s.env t = some d) (hw : WkD d d') (h : RL m F μ s a w) : RL m F μ { s with env := Z6j s.env t d' } a w :=
 ⟨h.hr, ⟨fun n x hn => by
  simp only [Z5n] at hn
  split at hn
  ·rename_i e; subst e; cases hn
   obtain ⟨v, h1, h2⟩ := h.er.env _ _ ht
   exact ⟨v, h1, hw.out _ _ _ h2⟩
  ·exact h.er.env n x hn, h.er.nt, h.er.dfs⟩, h.len⟩
theorem Zs0 {H : List Blk} {k : Nat} {d d' : D} (hk : Z1m H k = some (.box d)) (hw : WkL d.cells d'.cells) (h : HR F μ H w) : HR F μ (H.set k (.box d')) w /\ Post F μ H w F μ (H.set k (.box d')) w /\ ∀ j y, Z13 H j = some y -> Z13 (H.set k (.box d')) j = some y := by
 have hb := Z7c hk;have hkl := Z7k hb;have hset : ∀ j, (H.set k (Blk.box d'))[j]? = if j = k then some (Blk.box d') else H[j]? := fun j => by
  have := Z2m (H := H) (Blk.box d') (Nat.le_of_lt hkl) j
  rwa [Z4l, if_pos hkl] at this
 have := Z5e (μ' := μ) (w' := w) (H' := H.set k (.box d')) (fun j => j = k) h (by simp) (fun j hj => by rw [hset, if_neg hj]) (fun j _ => rfl) (fun j b _ => Iff.rfl) (fun _ _ _ h => h) (Nat.le_refl _) rfl rfl rfl
  (fun b' hb' hn => rfl) (fun k' b' hk' _ hf => .inl ⟨k, rfl, Z15 hb, by subst hk'; exact hf⟩) (fun k1 k2 b h1 h2 _ _ _ _ => h1.trans h2.symm)
  (fun k' hk' hle' => by subst hk'; simp at hle'; omega) (fun _ k' sz1 es1 hk' hb1 hne => ?_) (fun k' y hk' _ b => by subst hk'; exact h.plain k' _ hb b) (fun _ k' y hk' hy _ => by subst hk'; rw [Z19 (by rw [hset, if_pos rfl])] at hy; cases hy) (fun k' hk' he => by subst hk'; exact h.non _ he) (fun k' y hk' hy => by
   subst hk'; rw [hset, if_pos rfl] at hy; cases hy; exact fun _ _ e => by cases e)
 ·exact ⟨this.1, this.2.1, fun j y hj => Z95 _ hb hj⟩
 ·subst hk';rw [Z1s (by rw [hset, if_pos rfl])] at hb1;simp only [Blk.es, Option.some.injEq, Prod.mk.injEq] at hb1;obtain ⟨rfl, rfl⟩ := hb1;have hlen := hw.length;rcases h.row k' _ _ hb hne with ⟨e1, e2⟩ | ⟨b, m, c, t, e1, e2, e3, e4, e5⟩
  ·cases e2
  ·refine .inr ⟨b, m, c, t, e1, e2, e3, by rw [<- hlen]; exact e4, fun i e he => ?_⟩
   match i, he with
   | 0, he =>
    simp at he; subst he;refine ⟨rfl, fun r d hd => ?_⟩;obtain ⟨d0, h1, h2⟩ := hw.get hd;obtain ⟨v, v1, v2, v3⟩ := (e5 0 _ rfl).2 r d0 h1;exact ⟨v, by rw [<- hlen]; exact v1, v2, h2.out _ _ _ v3⟩
   | i + 1, he => simp at he
theorem Zs1 {s : St} {a : Act} {k : Nat} {d d' : D} (hk : Z1m s.H k = some (.box d)) (hw : WkL d.cells d'.cells) (h : RL m F μ s a w) : RL m F μ { s with H := s.H.set k (.box d') } a w /\ Post F μ s.H w F μ (s.H.set k (.box d')) w /\ Kp m μ s.H μ (s.H.set k (.box d')) := by
 obtain ⟨h1, h2, h3⟩ := Zs0 hk hw h.hr;exact ⟨⟨h1, ⟨h.er.env, h.er.nt, h.er.dfs.mono (fun _ _ _ e => e) (fun _ _ e => e) (fun j hj => ⟨h3 j _ hj, fun _ e => e⟩)⟩, by simpa using h.len⟩, h2, .ob fun i hi => h3 i _ hi⟩
end
end Go.Abs

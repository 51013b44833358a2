/- Part TxAP of the proofs about the benches of the accordion maker: see the last text of the claim for what is proved. -/
import Derived.Laws.RangeString
import Derived.Laws.IdiomStrings
import Derived.Test.YthljpccegkmdnaaGreatDoorTxAO
import Derived.Test.YthljpccegkmdnaaGreatDoorTxAM
import Derived.Test.YthljpccegkmdnaaGreatDoorTxAN
set_option linter.unusedVariables false
set_option linter.unusedSimpArgs false
set_option linter.unnecessarySimpa false
set_option linter.constructorNameAsVariable false

namespace Go.Abs
open Go
section
variable {P : Program} {T : TT} {r : Option Nat} {m : Nat} {ops : Array Oper} {Q : AX -> St -> Prop} {s : St}
def Zoi (ops : Array Oper) (i j : Nat) (L : List Nat) : Bool := allB (fun i' => match ops[i']? with | some o' => Zrw (fun e => Z7a (i :: j :: L) e) (ons o') | none => true) L
theorem Zgd {i j : Nat} {L : List Nat} (h : Zoi ops i j L = true) : ∀ i' ∈ L, ∀ o', ops[i']? = some o' -> ∃ e ∈ ons o', e = i ∨ e = j ∨ e ∈ L := fun i' hi o' ho => by
 have h1 := Z70.1 h i' hi;simp only [ho] at h1;obtain ⟨e, he, h2⟩ := Zfj h1;refine ⟨e, he, ?_⟩;have := (Z3w _ _).1 h2;simpa using this
theorem Z9o (hT : TOK P T) {A : Ar} (hA : A = ar) {Dk : List Nat -> List (Nat × PK) -> St -> Prop} (hD : Dk = DrawA P T r m ops Q) {i j : Nat} {L : List Nat} {pend : List (Nat × PK)} {o o2 : Oper}
  (hoi : ops[i]? = some o) (hoj : ops[j]? = some o2) (hd : Z36 s.nt o.dst = true) (hd2 : Z36 s.nt o2.dst = true) (hlk : Z4s ops o pend = true) (hlk2 : Z4s ops o2 pend = true) (hw : Z2l ops o (Z1j o pend) = true) (hw2 : Z2l ops o2 (Z1j o2 pend) = true)
  (hrd : Zoi ops i j L = true) (hg : o.guard = none) (hg2 : o2.guard = none)
  (h : wA A T (s.only (o.looksAt ops)) (fun d H' => Z7f A T ops (s.step o.dst (d.getD (.tup [])) H' s.dfs) (Z1j o pend) /\ Dk (j :: L) (Z1j o pend) (s.step o.dst (d.getD (.tup [])) H' s.dfs)) o.op)
  (h2 : wA A T (s.only (o2.looksAt ops)) (fun d H' => Z7f A T ops (s.step o2.dst (d.getD (.tup [])) H' s.dfs) (Z1j o2 pend) /\ Dk (i :: L) (Z1j o2 pend) (s.step o2.dst (d.getD (.tup [])) H' s.dfs)) o2.op) : Dk (i :: j :: L) pend s := by
 subst hA; subst hD;have w1 := Z1t hw;have w2 := Z1t hw2;refine .two (K := fun d H' ds => Z7f ar T ops (s.step o.dst d H' ds) (Z1j o pend) /\ DrawA P T r m ops Q (j :: L) (Z1j o pend) (s.step o.dst d H' ds)) (K2 := fun d H' ds => Z7f ar T ops (s.step o2.dst d H' ds) (Z1j o2 pend) /\ DrawA P T r m ops Q (i :: L) (Z1j o2 pend) (s.step o2.dst d H' ds))
  (Z1j o pend) (Z1j o2 pend) hoi hoj hd hd2 (Z23 hlk) (Z23 hlk2) w1 w2 (fun u hu => Zae u hu) (fun u hu => Zae u hu) (Zgd hrd) ?_ ?_
  (fun d H' ds hK u hu hok => Zeh (fun o' t h1 h2 => w1.out u hu o' t h1 h2) hok (Zad hK.1 u hu)) (fun d H' ds hK u hu hok => Zeh (fun o' t h1 h2 => w2.out u hu o' t h1 h2) hok (Zad hK.1 u hu)) (fun d H' ds hK => hK.2) (fun d H' ds hK => hK.2)
 ·simp only [Zh, hg];exact (Zgs (P := P) (r := r) (o := o) (s := s.only (o.looksAt ops)) (K := fun d H' ds => Z7f ar T ops (s.step o.dst d H' ds) (Z1j o pend) /\ DrawA P T r m ops Q (j :: L) (Z1j o pend) (s.step o.dst d H' ds)) (X := fun _ _ => False) hT h).mono (fun d H ds hk => hk) (fun _ _ h => h.elim)
 ·simp only [Zh, hg2];exact (Zgs (P := P) (r := r) (o := o2) (s := s.only (o2.looksAt ops)) (K := fun d H' ds => Z7f ar T ops (s.step o2.dst d H' ds) (Z1j o2 pend) /\ DrawA P T r m ops Q (i :: L) (Z1j o2 pend) (s.step o2.dst d H' ds)) (X := fun _ _ => False) hT h2).mono (fun d H ds hk => hk) (fun _ _ h => h.elim)
end
end Go.Abs

namespace Go.Abs
open Go
section
variable {P : Program} {T : TT} {r : Option Nat} {m : Nat} {ops : Array Oper} {Q : AX -> St -> Prop} {s : St}
end
end Go.Abs

namespace Go.Abs
open Go
section
variable {P : Program} {T : TT} {F : Fz} {μ : Mu} {w : World} {r : Option Nat} {m : Nat} {ops : Array Oper} {Q : AX -> St -> Prop} {s : St}
theorem Z1j8 (hT : TOK P T) {t : TypeId} {e : TE} (he : Z1d T t = some e) (hk : e.kc = 2) : P.underlying t = some .string := by
 obtain ⟨d, hd, hkc, -⟩ := Z1e hT he;rw [hk] at hkc;obtain rfl : d = .string := by cases d <;> simp [Zaw] at hkc; rfl
 exact hd
theorem Z1ih {o : Oper} {K : D -> List Blk -> List AD -> Prop} {X : D -> List Blk -> Prop} (hT : TOK P T) {t : TypeId} {e : TE} {x : Operand} {str : ByteArray} (ho : o.op = .range t x) (hx : evo s.env x = some (.v (.string str)))
  (he : Z1d T t = some e) (hk : e.kc = 2) (h : K (.b s.H.length 0) (s.H ++ [.ob (.si str 0)]) s.dfs) : OpA P r o s K X := by
 refine ⟨fun F μ a w hr her next Q hn _ => ?_⟩;have hxv := (her.evo hx).v_inv;obtain ⟨u1, u2, u3⟩ := Zjj hr (x := .si str 0) (o := .stringIter str 0) (by intro e; cases e) (fun hb hm => ⟨w.heap.size, Z2f _ _ _, hb, fun c hc => hr.non _ (hr.dom _ (Nat.le_refl _)) c hc⟩);have hst : Stp F μ s.H w F (Z4v μ s.H.length (some (w.heap.size, 0))) (s.H ++ [.ob (.si str 0)]) (w.alloc (.stringIter str 0)) :=
  ⟨u2, u1, by simp, fun j hj => by rw [Z2k _ (by omega)], .app _ _ _ _ _⟩
 have hrun := run_range_string (P := P) w t str (Z1j8 hT he hk);rw [Oper.semAt_eq r a.eval o (fun c e => by rw [ho] at e; cases e)];have hex : (execOp a.eval o).run P w = .ok (.value (.pointer (some ⟨w.heap.size, 0, none⟩))) (w.alloc (.stringIter str 0)) := by
  unfold execOp;rw [ho];simp only [hxv, Sem.run_bind, hrun, Result.andThen_ok, Sem.run_pure];rfl
 rw [hex, Oper.uponIn_value];exact hn F _ _ _ s.dfs _ _ _ hst (hst.adr hr her.dfs) (.b _ 0 _ _ (Z2f _ _ _)) h
theorem Z1hw {o : Oper} {K : D -> List Blk -> List AD -> Prop} {X : D -> List Blk -> Prop} {x : Operand} {j pos : Nat} {str : ByteArray} (ho : o.op = .next x true) (hx : evo s.env x = some (.b j 0))
  (hj : Z1m s.H j = some (.ob (.si str pos)))
  (h0 : ¬ pos < str.size -> K (.tup [.v (.bool false)]) s.H s.dfs)
  (h1 : ∀ h : pos < str.size, (str[pos]'h).toNat < 128 /\ K (.tup [.v (.bool true), .v (.int .i64 pos), .v (.int .i32 (str[pos]'h).toNat)]) (s.H.set j (.ob (.si str (pos + 1)))) s.dfs) : OpA P r o s K X := by
 refine ⟨fun F μ a w hr he next Q hn _ => ?_⟩;obtain ⟨b, mb, hav, hμj⟩ := Zoh he hx;have hoj := Z42 hj;obtain ⟨b', i1, i3, i4⟩ := hr.obj _ _ hoj (by rw [hμj]; simp);rw [hμj] at i1; cases i1;rw [Oper.semAt_eq r a.eval o (fun c e => by rw [ho] at e; cases e)];have hex : execOp a.eval o = (do let v <- Instr.next (.pointer (some ⟨b, 0, none⟩)) true o.type; pure (.value v)) := by
  unfold execOp;rw [ho];simp only [hav]
 rw [hex]
 by_cases h : pos < str.size
 ·obtain ⟨ha, hk⟩ := h1 h;have hset : (setObj b (.stringIter str (pos + 1))).run P w = .ok () { w with heap := w.heap.setIfInBounds b (.stringIter str (pos + 1)) } := by simp [setObj, Sem.run, i3]
  have hrun : (Instr.next (.pointer (some ⟨b, 0, none⟩)) true o.type).run P w = .ok (.tuple #[.bool true, .int .i64 pos, .int .i32 (str[pos]'h).toNat]) { w with heap := w.heap.setIfInBounds b (.stringIter str (pos + 1)) } := by
   simp only [Instr.next, getObj, Sem.run_bind, Sem.run, i3, Result.andThen, h, if_true, decode_ascii str pos h ha, hset];rfl
  simp only [Sem.run_bind, hrun, Result.andThen_ok, Sem.run_pure, Oper.uponIn_value];obtain ⟨q1, q2⟩ := Zbc hr (y := .si str (pos + 1)) (o := .stringIter str (pos + 1)) hoj hμj i4
   (w' := { w with heap := w.heap.setIfInBounds b (.stringIter str (pos + 1)) }) rfl rfl rfl rfl (fun hb => ⟨b, hμj, hb, i4⟩)
  have hst : Stp F μ s.H w F μ (s.H.set j (.ob (.si str (pos + 1)))) { w with heap := w.heap.setIfInBounds b (.stringIter str (pos + 1)) } :=
   ⟨q2, q1, by simp, fun _ _ => rfl, fun i hi => ⟨Z48 (y := .mk) hoj (by intro e; cases e) _ hi, fun _ e => e⟩⟩
  exact hn F μ _ _ s.dfs _ _ _ hst (hst.adr hr he.dfs) (Zuy (Z3d rfl) (Z3d rfl) (Z3d rfl)) hk
 ·have hrun : (Instr.next (.pointer (some ⟨b, 0, none⟩)) true o.type).run P w = .ok (.tuple #[.bool false]) w := by
   simp only [Instr.next, getObj, Sem.run_bind, Sem.run, i3, Result.andThen, h, if_false];rfl
  simp only [Sem.run_bind, hrun, Result.andThen_ok, Sem.run_pure, Oper.uponIn_value];exact hn F μ s.H w s.dfs _ _ _ (Stp.refl hr) he.dfs (Zuw (Z3d rfl)) (h0 h)
theorem Z1iu {o : Oper} {K : D -> List Blk -> List AD -> Prop} {X : D -> List Blk -> Prop} (hT : TOK P T) {src dst t8 : TypeId} {e1 e2 e3 : TE} {x : Operand} {k : Nat} {z : Int} (b : UInt8) (hb : z = (b.toNat : Int)) (ho : o.op = .convert src dst x) (hx : evo s.env x = some (.o k 1 1))
  (hk : Z1m s.H k = some (.els 1 [.v (.int .u8 z)])) (h1 : Z1d T src = some e1) (h2 : Z1d T dst = some e2) (h3 : Z1d T t8 = some e3) (h4 : e1.el = some (none, t8)) (h5 : e2.kc = 2) (h6 : e3.ik = some .u8)
  (h : K (.v (.string ⟨#[b]⟩)) s.H s.dfs) : OpA P r o s K X := by
 refine ⟨fun F μ a w hr he next Q hn _ => ?_⟩;have hxv := he.evo hx;obtain ⟨d1, hd1, -, hel, -⟩ := Z1e hT h1;obtain ⟨d3, hd3, -, -, hi3⟩ := Z1e hT h3;rw [h4] at hel;rw [h6] at hi3;obtain rfl : d1 = .slice t8 := by cases d1 <;> simp at hel; rw [hel]
 obtain rfl : d3 = .int .u8 := by cases d3 <;> simp at hi3; rw [hi3]
 have hbk : Z17 s.H k = some (1, [.v (.int .u8 z)]) := Z5f hk;obtain ⟨b0, m0, cap, hav, hμ⟩ : ∃ b m cap, a.eval x = .slice (some ⟨b, 0, none⟩) 1 cap /\ μ k = some (some (b, m)) := by
  generalize a.eval x = v at hxv
  cases hxv with
  | cl _ _ hc => cases hc
  | o _ _ _ b m cap h hc hm => exact ⟨b, m, cap, rfl, h⟩
 have hcell := hr.cells hbk hμ 0 _ rfl 0 _ rfl;obtain ⟨v, c1, -, c3⟩ := hcell;have := c3.v_inv;subst this;have hrun := run_convert_bytes_back (P := P) w src dst t8 ⟨b0, 0, none⟩ cap [b] hd1 hd3 (Z1j8 hT h2 h5) (fun j hj => by
  have : j = 0 := by simpa using hj
  subst this
  rw [add_lit]
  simpa [hb] using c1)
 rw [Oper.semAt_eq r a.eval o (fun c e => by rw [ho] at e; cases e)];have hex : (execOp a.eval o).run P w = .ok (.value (.string ⟨#[b]⟩)) w := by
  unfold execOp;rw [ho];simp only [hav, Sem.run_bind];have hrun' : (convert src dst (.slice (some ⟨b0, 0, none⟩) 1 cap)).run P w = .ok (.string ⟨#[b]⟩) w := hrun;rw [hrun'];rfl
 rw [hex, Oper.uponIn_value];exact hn F μ s.H w s.dfs _ _ _ (Stp.refl hr) he.dfs (Z3d rfl) h
theorem Z1ho (hT : TOK P T) {A : Ar} (hA : A = ar) {Dk : List Nat -> List (Nat × PK) -> St -> Prop} (hD : Dk = DrawA P T r m ops Q) {i : Nat} {L : List Nat} {pend : List (Nat × PK)} {o : Oper} {src dst t8 : TypeId} {e1 e2 e3 : TE} {x : Operand} {k : Nat} {z : Int} (b : UInt8) (hb : z = (b.toNat : Int))
  (hoi : ops[i]? = some o) (hd : Z36 s.nt o.dst = true) (hlk : Z4s ops o pend = true) (hw : Z2l ops o (Z1j o pend) = true) (hrd : Z8n ops i L = true) (hg : o.guard = none)
  (ho : o.op = .convert src dst x) (hx : evo (s.only (o.looksAt ops)).env x = some (.o k 1 1)) (hk : Z1m s.H k = some (.els 1 [.v (.int .u8 z)])) (h1 : Z1d T src = some e1) (h2 : Z1d T dst = some e2) (h3 : Z1d T t8 = some e3) (h4 : e1.el = some (none, t8)) (h5 : e2.kc = 2) (h6 : e3.ik = some .u8)
  (hp : Z7f A T ops (s.step o.dst (.v (.string ⟨#[b]⟩)) s.H s.dfs) (Z1j o pend)) (h : vcD A T ops (Q .normal) Dk L (Z1j o pend) (s.step o.dst (.v (.string ⟨#[b]⟩)) s.H s.dfs)) : Dk (i :: L) pend s := by
 have h7 := Zx hT hA hD h;subst hA hD;refine Z5p hoi hd hlk hw hrd ?_;simp only [Zh, hg];exact Z1iu hT b hb ho hx hk h1 h2 h3 h4 h5 h6 ⟨hp, h7⟩
end
end Go.Abs

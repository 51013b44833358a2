/- Part TxBI of the proofs about the benches of the accordion maker: see the last text of the claim for what is proved. -/
import Derived.Test.YtggilmnhgjofiaaGreatTxBH
import Derived.Test.YtggilmnhgjofiaaGreatTxAS
set_option linter.unusedVariables false
set_option linter.unusedSimpArgs false
set_option linter.unnecessarySimpa false
set_option linter.constructorNameAsVariable false

namespace Go.Proofs.YtggilmnhgjofiaaGreat
open Go Go.Abs Go.Proofs
def resF (q v c : Int) : List D := if c <= q then [] else if c <= q + 1 ∨ v = 100 * q then [I q] else [I q, I (q + 1)]
theorem Z22h {q v c : Int} (h : c <= q) : resF q v c = [] := by rw [resF, if_pos h]
theorem Z1xr {q v c : Int} (h : q < c) (h' : c <= q + 1 ∨ v = 100 * q) : resF q v c = [I q] := by rw [resF, if_neg (by omega), if_pos h']
theorem Z20t {q v c : Int} (h : q + 1 < c) (h' : v ≠ 100 * q) : resF q v c = [I q, I (q + 1)] := by rw [resF, if_neg (by omega), if_neg (by omega)]
theorem Z257 {q v c : Int} (hqv : 100 * q <= v /\ v < 100 * q + 100) (hc : 100 * (c - 1) < v /\ v < 100 * (c + 1)) : resF q v (c + 1) = resF q v c ++ [I c] := by
 have : c = q ∨ (c = q + 1 /\ v ≠ 100 * q) := by omega
 rcases this with rfl | ⟨rfl, h⟩
 ·rw [Z22h (Int.le_refl _), Z1xr (by omega) (.inl (Int.le_refl _))]; rfl
 ·rw [Z20t (by omega) h, Z1xr (by omega) (.inl (Int.le_refl _))]; rfl
theorem Z266 {q v c : Int} (hqv : 100 * q <= v /\ v < 100 * q + 100) (hc : ¬ (100 * (c - 1) < v /\ v < 100 * (c + 1))) : resF q v (c + 1) = resF q v c := by
 have : c + 1 <= q ∨ (c = q + 1 /\ v = 100 * q) ∨ q + 2 <= c := by omega
 rcases this with h | ⟨rfl, h⟩ | h
 ·rw [Z22h h, Z22h (by omega)]
 ·rw [Z1xr (by omega) (.inr h), Z1xr (by omega) (.inr h)]
 ·by_cases hv : v = 100 * q
  ·rw [Z1xr (by omega) (.inr hv), Z1xr (by omega) (.inr hv)]
  ·rw [Z20t (by omega) hv, Z20t (by omega) hv]
theorem Z258 (q v c : Int) : (resF q v c).length <= 2 := by unfold resF; split <;> (try split) <;> simp
set_option maxRecDepth 40000 in
set_option maxHeartbeats 8000000 in
theorem Z27f (n s v q : Int) (hv : v = n * s) (hn : 0 <= n /\ n <= 100000) (hs : 0 <= s /\ s <= 100) (hqv : 100 * q <= v /\ v < 100 * q + 100) (hq1 : 1 <= q /\ q <= 24000) (Q) (hqa : v = 100 * q -> Q (RA.ret (.o 0 1 1)) [.els 1 [I q]]) (hqb : v ≠ 100 * q -> ∀ q', q' = q + 1 -> Q (RA.ret (.o 0 1 2)) [.els 1 [I q, I q']]) :
  CallA Tryz.prog 91 [.ifc 180 (.agg [I 1, I 0, I 0, I s, I 0, I 0, I 0]), tone n] [] Q := by
 obtain ⟨A, hA⟩ : ∃ A, A = ar := ⟨_, rfl⟩;have hb := Z1zl hn hs;rw [<- hv] at hb;have hmul : A.mul n s = v := by subst hA; exact hv.symm
 have f0 : A.fits .i64 (A.mul n s) := by rw [hmul]; subst hA; exact Zbu (by omega)
 have hquo : A.quo v 100 = q := by
  subst hA;show v.tdiv 100 = q;rw [Int.tdiv_eq_ediv_of_nonneg (by omega)];omega
 have f1 : A.fits .i64 (A.quo (A.mul n s) 100) := by rw [hmul, hquo]; subst hA; exact Zbu (by omega)
 have f2 : A.fits .i64 (A.sub (A.quo (A.mul n s) 100) 0) := by rw [hmul, hquo]; subst hA; exact Zbu (n := q - 0) (by omega)
 have f3 : A.fits .i64 (A.sub (A.sub (A.quo (A.mul n s) 100) 0) 1) := by rw [hmul, hquo]; subst hA; exact Zbu (n := q - 0 - 1) (by omega)
 have h8 : A.max 0 (A.sub (A.sub (A.quo (A.mul n s) 100) 0) 1) = q - 1 := by
  rw [hmul, hquo]; subst hA;show (if q - 0 - 1 > 0 then q - 0 - 1 else 0) = q - 1
  split <;> omega
 have f4 : A.fits .i64 (A.quo v 100) := by rw [hquo]; subst hA; exact Zbu (by omega)
 have f5 : A.fits .i64 (A.add (A.quo v 100) 0) := by rw [hquo]; subst hA; exact Zbu (n := q + 0) (by omega)
 have f6 : A.fits .i64 (A.add (A.add (A.quo v 100) 0) 2) := by rw [hquo]; subst hA; exact Zbu (n := q + 0 + 2) (by omega)
 have h7 : A.min 25000 (A.add (A.add (A.quo v 100) 0) 2) = q + 2 := by
  rw [hquo]; subst hA;show (if q + 0 + 2 < 25000 then q + 0 + 2 else 25000) = q + 2
  split <;> omega
 refine Z5 Z0 hA Tryz.func91 rfl rfl rfl rfl rfl fun S hS => ?_;cbv;refine Z16 Z0 hA hS [0, 1, 2, 3, 4, 5, 6, 7, 8, 9] rfl rfl fun Dk hDk => ?_;cbv;refine ⟨by subst hA; exact ⟨by decide, by decide⟩, Need.mk ⟨I n, by subst hA; rfl, ?_⟩⟩;cbv;refine ⟨f0, ?_⟩;refine ⟨by subst hA; show (100 : Int) ≠ 0; decide, f1, f2, f3, ?_⟩;refine Z3h hS (Zo7 6 (I v) rfl (WkD.eq (congrArg (fun x => D.v (.int .i64 x)) hmul)) (Zo7 8 (I (q - 1)) rfl (WkD.eq (congrArg (fun x => D.v (.int .i64 x)) h8)) (Z7 ?_)));refine Zpi hS 7 1 rfl ?_;cbv;refine Zb hS ?_;refine Za (α := Int × Int × Nat × List D) (fun p => { env := [(3, .b 0 0), (5, .b 1 0), (6, I v), (7, .o 2 1 p.2.2.1), (8, I p.1)], H := [.box (tone n), .box (.agg [I 1, I 0, I 0, I s, I p.2.1, I p.2.1, I 0]), .els 1 p.2.2.2], nt := 76, dfs := [] })
  (fun p => (q + 4 - p.1).toNat) (fun p => (q - 1 <= p.1 /\ p.1 <= q + 3) /\ p.2.2.2 = resF q v p.1 /\ p.2.2.2.length = p.2.2.1) (q - 1, 0, 0, []) ⟨⟨by show q - 1 <= q - 1; omega, by show q - 1 <= q + 3; omega⟩, by show [] = resF q v (q - 1); rw [resF, if_pos (by omega)], rfl⟩ ?_ ?_
 ·exact Zf [0, 1, 2] ⟨by decide, Z9, ⟨rfl, rfl, rfl, trivial⟩, ⟨rfl, rfl, rfl, rfl, rfl, trivial⟩, rfl, rfl⟩
 rintro ⟨c, z, k, es⟩ ⟨⟨c1, c2⟩, hes, hk⟩;dsimp only at c1 c2 hes hk;have hfc : A.fits .i64 (A.add c 1) := by subst hA; exact Zbu (n := c + 1) (by omega)
 have hk3 : k <= 1000000 := by have := Z258 q v c; rw [<- hes, hk] at this; omega
 have hIs := fun h => lIs n s c v hv hn hs h;have hEnd : q + 2 < c -> es = resF q v (q + 3) := fun h => by rw [hes]; congr 1; omega
 have hNx1 : (decide (100 * (c - 1) < v) && decide (v < 100 * (c + 1))) = true -> A.app es [I c] = resF q v (A.add c 1) := fun h => by
  simp at h;subst hA;show es ++ [I c] = resF q v (c + 1);rw [Z257 hqv h, hes]
 have hNx0 : (decide (100 * (c - 1) < v) && decide (v < 100 * (c + 1))) = false -> es = resF q v (A.add c 1) := fun h => by
  subst hA;show es = resF q v (c + 1);rw [Z266 hqv (fun h2 => by simp [h2.1, h2.2] at h), hes]
 have hln : (A.app es [I c]).length = A.addN k 1 := by subst hA; show (es ++ [I c]).length = k + 1; simp [hk]
 have hm1 : c <= q + 2 -> (q - 1 <= A.add c 1 /\ A.add c 1 <= q + 3) /\ (q + 4 - A.add c 1).toNat < (q + 4 - c).toNat := fun h => by subst hA; show (q - 1 <= c + 1 /\ c + 1 <= q + 3) /\ (q + 4 - (c + 1)).toNat < (q + 4 - c).toNat; omega
 have hcb : -10 <= c /\ c <= 1000000 := by omega
 refine Zi Z0 hA hS ?_;cbv;refine ⟨by subst hA; show (100 : Int) ≠ 0; decide, f4, f5, f6, ?_⟩;refine bm (fun cc => ?_) (fun cc => ?_)
 ·have hc2 : c <= q + 2 := Int.le_trans (xle hA cc) (Int.le_of_eq h7);obtain ⟨hm1, hm2⟩ := hm1 hc2;cbv;refine Z4 hS [.agg [I 1, I 0, I 0, I s, I c, I c, I 0], tone n] [] [] rfl rfl rfl rfl rfl rfl rfl rfl (by decide) trivial (hIs hcb _ fun b hb => Z3 Z0 hA hS ?_)
  cases b with
  | true =>
   have hn1 := hNx1 hb.symm;cbv;refine ⟨Ze hA hk, Ze hA rfl, Z27 hA hk3 (by decide), hfc, ?_⟩;refine Z8 (A.add c 1, c, A.addN k 1, A.app es [I c]) [0, 1, 4] ⟨hm1, hn1, hln⟩ hm2 ?_;exact ⟨by decide, Z9, ⟨rfl, rfl, rfl, trivial⟩, ⟨rfl, rfl, rfl, rfl, rfl, trivial⟩, rfl, rfl⟩
  | false =>
   have hn0 := hNx0 hb.symm;cbv;refine ⟨hfc, ?_⟩;refine Z8 (A.add c 1, c, k, es) [0, 1, 2] ⟨hm1, hn0, hk⟩ hm2 ?_;exact ⟨by decide, Z9, ⟨rfl, rfl, rfl, trivial⟩, ⟨rfl, rfl, rfl, rfl, rfl, trivial⟩, rfl, rfl⟩
 ·have hc2 : q + 2 < c := by have h := Zec hA cc; exact Int.lt_of_le_of_lt (Int.le_of_eq h7.symm) h
  have he := hEnd hc2
  by_cases hv0 : v = 100 * q
  ·have hqq := hqa hv0;have he1 : es = [I q] := he.trans (Z1xr (by omega) (.inr hv0));subst he1;obtain rfl : 1 = k := hk;cbv;refine Z7 ?_;cbv;exact Z2 [2] (by decide) Z9 (H' := [.els 1 [I q]]) (d' := .o 0 1 1) ⟨rfl, trivial⟩ rfl (Z1 hqq)
  ·obtain ⟨q', hq'⟩ : ∃ q', q' = q + 1 := ⟨_, rfl⟩;have hqq := hqb hv0 q' hq';have he1 : es = [I q, I q'] := he.trans (by rw [Z20t (by omega) hv0, hq']);subst he1;obtain rfl : 2 = k := hk;cbv;refine Z7 ?_;cbv;exact Z2 [2] (by decide) Z9 (H' := [.els 1 [I q, I q']]) (d' := .o 0 1 2) ⟨rfl, trivial⟩ rfl (Z1 hqq)
end Go.Proofs.YtggilmnhgjofiaaGreat

namespace Go.Proofs.YtggilmnhgjofiaaGreat
open Go Go.Abs Go.Proofs
abbrev MRow := List (Int × List D)
def addM : MRow -> Int -> D -> MRow
 | [], K, t => [(K, [t])]
 | (K', R) :: M, K, t => if K' = K then (K', R ++ [t]) :: M else (K', R) :: addM M K t
def RepM : MRow -> List (List Int × D) -> List Ent -> Prop
 | [], e, g => e = [] /\ g = []
 | (K, R) :: M, e, g => ∃ x e' g', e = ([K], .v x) :: e' /\ g = (x, some R) :: g' /\ R ≠ [] /\ RepM M e' g'
def keyM (M : MRow) (K : Int) : Prop := ∃ R, (K, R) ∈ M
theorem Z1yl {K K' : Int} {d : D} {e : List (List Int × D)} {d' : D} (h : K' ≠ K) : ar.mput (([K'], d) :: e) [K] d' = ([K'], d) :: ar.mput e [K] d' := by
 show (match (([K'], d) :: e).findIdx? (·.1 == [K]) with | some i => (([K'], d) :: e).set i ([K], d') | none => ([K'], d) :: e ++ [([K], d')]) = ([K'], d) :: (match e.findIdx? (·.1 == [K]) with | some i => e.set i ([K], d') | none => e ++ [([K], d')]);rw [List.findIdx?_cons];have : (([K'] : List Int) == [K]) = false := by simpa using h
 simp only [this, Bool.false_eq_true, if_false]
 cases e.findIdx? (·.1 == [K]) <;> simp
theorem Z21r {K : Int} {d : D} {e : List (List Int × D)} {d' : D} : ar.mput (([K], d) :: e) [K] d' = ([K], d') :: e := by
 show (match (([K], d) :: e).findIdx? (·.1 == [K]) with | some i => (([K], d) :: e).set i ([K], d') | none => ([K], d) :: e ++ [([K], d')]) = _;rw [List.findIdx?_cons];simp
theorem Z1ym {K K' : Int} {d : D} {e : List (List Int × D)} {z : D} (h : K' ≠ K) : ar.mget (([K'], d) :: e) [K] z = ar.mget e [K] z := by
 show some ((((([K'], d) :: e).find? (·.1 == [K])).map (·.2)).getD z) = some (((e.find? (·.1 == [K])).map (·.2)).getD z);rw [List.find?_cons];have : (([K'] : List Int) == [K]) = false := by simpa using h
 simp only [this]
theorem Z21s {K : Int} {d : D} {e : List (List Int × D)} {z : D} : ar.mget (([K], d) :: e) [K] z = some d := by
 show some ((((([K], d) :: e).find? (·.1 == [K])).map (·.2)).getD z) = some d;rw [List.find?_cons];simp
theorem Z21t (t : D) (K : Int) : ∀ {M : MRow} {e : List (List Int × D)} {g : List Ent}, RepM M e g -> keyM M K ->
  ∃ (j : Nat) (x : Value) (R : List D), (K, R) ∈ M /\ g[j]? = some (x, some R) /\ (∀ z, ar.mget e [K] z = some (.v x)) /\ ∀ x', RepM (addM M K t) (ar.mput e [K] (.v x')) (Zfl (g.set j (x, none)) j (x', some (R ++ [t])))
 | [], _, _, _, hk => by obtain ⟨R, hR⟩ := hk; simp at hR
 | (K', R') :: M, e, g, h, hk => by
  obtain ⟨x, e', g', rfl, rfl, hne, h⟩ := h
  by_cases hK : K' = K
  ·subst hK;refine ⟨0, x, R', by simp, rfl, fun z => Z21s, fun x' => ?_⟩;rw [Z21r, Zpt _ (by simp)];rw [addM, if_pos rfl];exact ⟨x', e', g', rfl, rfl, by simp, h⟩
  ·have hk' : keyM M K := by
    obtain ⟨R, hR⟩ := hk;simp only [List.mem_cons, Prod.mk.injEq] at hR;rcases hR with ⟨h1, -⟩ | hR
    ·exact absurd h1.symm hK
    ·exact ⟨R, hR⟩
   obtain ⟨j, y, R, q1, q2, q3, q4⟩ := Z21t t K h hk';have hj : j < g'.length := (List.getElem?_eq_some_iff.1 q2).1;refine ⟨j + 1, y, R, by simp [q1], q2, fun z => (Z1ym hK).trans (q3 z), fun x' => ?_⟩;have q4 := q4 x';rw [Zpt _ (by simpa using hj)] at q4;rw [Z1yl hK, Zpt _ (by simpa using hj)];rw [addM, if_neg hK];exact ⟨x, _, _, rfl, by simp, hne, q4⟩
theorem Z238 (t : D) (K : Int) : ∀ {M : MRow} {e : List (List Int × D)} {g : List Ent}, RepM M e g -> ¬ keyM M K ->
  (∀ z, ar.mget e [K] z = some z) /\ ∀ x', RepM (addM M K t) (ar.mput e [K] (.v x')) (Zfl g g.length (x', some [t]))
 | [], _, _, h, _ => by
  obtain ⟨rfl, rfl⟩ := h;refine ⟨fun z => rfl, fun x' => ?_⟩;exact ⟨x', [], [], rfl, rfl, by simp, rfl, rfl⟩
 | (K', R') :: M, e, g, h, hk => by
  obtain ⟨x, e', g', rfl, rfl, hne, h⟩ := h;have hK : K' ≠ K := fun e => hk ⟨R', by simp [e]⟩;obtain ⟨q1, q2⟩ := Z238 t K h (fun ⟨R, hR⟩ => hk ⟨R, by simp [hR]⟩);refine ⟨fun z => (Z1ym hK).trans (q1 z), fun x' => ?_⟩;have q2 := q2 x';rw [Z11o] at q2;rw [Z1yl hK, Z11o, addM, if_neg hK];exact ⟨x, _, _, rfl, by simp, hne, q2⟩
def Z1x2 (v : Int) : List Int := if v = 100 * (v / 100) then [v / 100] else [v / 100, v / 100 + 1]
def outF (s : Int) (ns : List Int) : MRow := ns.foldl (fun M n => (Z1x2 (n * s)).foldl (fun M K => addM M K (tone n)) M) []
def allN : List Int := [44000, 44001, 44002, 44003, 44004, 44005, 44006, 44007, 44008, 44009, 44010]
end Go.Proofs.YtggilmnhgjofiaaGreat

namespace Go.Proofs.YtggilmnhgjofiaaGreat
open Go Go.Abs Go.Proofs
theorem Z23r (v : Int) : 1 <= (Z1x2 v).length /\ (Z1x2 v).length <= 2 := by unfold Z1x2; split <;> simp
theorem Z267 (n s v : Int) (hv : v = n * s) (hn : 1000 <= n /\ n <= 100000) (hs : 1 <= s /\ s <= 20) (hv2 : 100 <= v /\ v <= 2000000) (Q) (hq : ∀ (KL : List D) (c : Nat), KL = (Z1x2 v).map I -> c = KL.length -> Q (RA.ret (.o 0 1 c)) [.els 1 KL]) :
  CallA Tryz.prog 91 [.ifc 180 (.agg [I 1, I 0, I 0, I s, I 0, I 0, I 0]), tone n] [] Q := by
 refine Z27f n s v (v / 100) hv ⟨by omega, hn.2⟩ ⟨by omega, by omega⟩ (by omega) (by omega) Q (fun h => hq _ _ ?_ rfl) (fun h q' hq' => hq _ _ ?_ rfl)
 ·rw [Z1x2, if_pos h]; rfl
 ·rw [Z1x2, if_neg h, hq']; rfl
def LenM (M : MRow) (c : Nat) : Prop := ∀ p ∈ M, p.2.length <= c
theorem LenM.add {M : MRow} {c : Nat} (h : LenM M c) (K : Int) (t : D) : LenM (addM M K t) (c + 1) := by
 induction M with
 | nil => intro p hp; simp [addM] at hp; subst hp; simp
 | cons q M ih =>
  obtain ⟨K', R⟩ := q;have h1 : R.length <= c := h (K', R) (by simp);have h2 : LenM M c := fun p hp => h p (by simp [hp]);rw [addM]
  split
  ·intro p hp;simp only [List.mem_cons] at hp;rcases hp with rfl | hp
   ·simpa using h1
   ·exact Nat.le_succ_of_le (h2 p hp)
  ·intro p hp;simp only [List.mem_cons] at hp;rcases hp with rfl | hp
   ·exact Nat.le_succ_of_le h1
   ·exact ih h2 p hp
def rdD (s : Int) : D := .ifc 180 (.agg [I 1, I 0, I 0, I s, I 0, I 0, I 0])
set_option maxRecDepth 40000 in
set_option maxHeartbeats 8000000 in
theorem Z23s (s : Int) (ns : List Int) (TL : List D) (hT : TL = ns.map tone) (hns : ns.length <= 100) (hs : 1 <= s /\ s <= 20) (hb : ∀ n ∈ ns, 44000 <= n /\ n <= 45000) (Q)
  (hq : ∀ e g, RepM (outF s ns) e g -> Q (RA.ret (.mv 0)) [.ob (.mp 0 e), .ob (.gr 3 g)]) :
  CallA Tryz.prog 61 [.sl 3 TL, rdD s] [] Q := by
 obtain ⟨A, hA⟩ : ∃ A, A = ar := ⟨_, rfl⟩;obtain ⟨N, hN⟩ : ∃ N, N = ns.length := ⟨_, rfl⟩;have hTl : TL.length = N := by rw [hT, hN]; simp
 obtain ⟨Mk, hMk⟩ : ∃ Mk : Nat -> MRow, Mk = fun i => outF s (ns.take i) := ⟨_, rfl⟩;have hM0 : Mk 0 = [] := by rw [hMk]; rfl
 have hMN : ∀ i, N <= i -> Mk i = outF s ns := fun i h => by rw [hMk]; show outF s (ns.take i) = _; rw [List.take_of_length_le (by omega)]
 have hget : ∀ i, i < N -> ∃ n v : Int, TL[i]? = some (tone n) /\ v = n * s /\ 44000 <= n /\ n <= 45000 /\ 100 <= v /\ v <= 2000000 /\ Mk (i + 1) = (Z1x2 v).foldl (fun M K => addM M K (tone n)) (Mk i) := fun i hi => by
  have hi' : i < ns.length := by omega
  have hn := hb ns[i] (List.getElem_mem hi');refine ⟨ns[i], _, by rw [hT]; simp [hi'], rfl, hn.1, hn.2, ?_, ?_, ?_⟩
  ·have := Int.mul_le_mul_of_nonneg_left (show 1 <= s from hs.1) (show 0 <= ns[i] by omega);omega
  ·have h1 := Int.mul_le_mul_of_nonneg_left (show s <= 20 from hs.2) (show 0 <= ns[i] by omega);omega
  ·rw [hMk];show outF s (ns.take (i + 1)) = _;rw [List.take_add_one, List.getElem?_eq_getElem hi'];simp only [outF, Option.toList_some, List.foldl_append, List.foldl_cons, List.foldl_nil]
 rw [<- hMN N (Nat.le_refl _)] at hq;clear hMk hMN;refine Z38 Z0 hA [2] Tryz.func61 rfl rfl rfl rfl rfl fun S hS => ?_;cbv;refine Z3h hS (Z212 3 ?_);cbv;refine Z7 ?_;refine Zb hS ?_;refine Z2w Z0 hA hS [] ?_;cbv;refine Zb hS ?_;refine Za (α := Int × Nat × List (List Int × D) × List Ent) (fun p => { env := [(1, .ifc 180 (.agg [I 1, I 0, I 0, I s, I 0, I 0, I 0])), (5, .mv 0), (11, .sl 3 TL), (12, I (A.oi (A.len TL))), (13, I p.1)], H := [.ob (.mp 0 p.2.2.1), .ob (.gr 3 p.2.2.2)], nt := 36, dfs := [] })
  (fun p => N - p.2.1) (fun p => IsI p.1 p.2.1 /\ p.2.1 <= N /\ RepM (Mk p.2.1) p.2.2.1 p.2.2.2 /\ LenM (Mk p.2.1) (2 * p.2.1)) (0, 0, [], []) ⟨⟨rfl⟩, Nat.zero_le _, by show RepM (Mk 0) [] []; rw [hM0]; exact ⟨rfl, rfl⟩, by show LenM (Mk 0) 0; rw [hM0]; exact fun p hp => absurd hp (by simp)⟩ ?_ ?_
 ·exact Zf [0, 1] ⟨by decide, Z9, ⟨rfl, rfl, trivial⟩, ⟨rfl, rfl, rfl, rfl, rfl, trivial⟩, rfl, rfl⟩
 rintro ⟨iI, i, e, g⟩ ⟨u1, u2, u3, u4⟩;dsimp only at u1 u2 u3 u4;refine Zi Z0 hA hS ?_;cbv;refine bm (fun c => ?_) (fun c => ?_)
 ·have hi := Z31 hA hTl u1 c;obtain ⟨n, v, g1, g2, g3, g4, g5, g6, g7⟩ := hget i hi;have hin := Z1b hA hTl u1 hi;have hg := Z18 hA u1 g1;have hf1 := Zy hA u1 (by omega);have hu1 := Zz hA u1;have hms : N - (i + 1) < N - i := by omega
  have hsh := fun h1 h2 => Z267 n s v g2 h1 h2 ⟨g5, g6⟩;have hsh := hsh ⟨by omega, by omega⟩ hs;have hLn := Z23r v;obtain ⟨ks, hks⟩ : ∃ ks, ks = Z1x2 v := ⟨_, rfl⟩;rw [<- hks] at hLn g7 hsh;clear hks g2;cbv;refine ⟨hin, Need.mk ⟨_, hg, ?_⟩⟩;cbv;refine Z4 hS [.ifc 180 (.agg [I 1, I 0, I 0, I s, I 0, I 0, I 0]), tone n] [] [] rfl rfl rfl rfl rfl rfl rfl rfl (by decide) trivial (hsh _ fun KL cn hKL hcn => Z3 Z0 hA hS ?_);have hcn2 : cn = ks.length := by rw [hcn, hKL]; simp
  cbv;refine Zb hS ?_;refine Za (α := Int × Nat × List (List Int × D) × List Ent) (fun p => { env := [(1, .ifc 180 (.agg [I 1, I 0, I 0, I s, I 0, I 0, I 0])), (5, .mv 0), (11, .sl 3 TL), (12, I (A.oi (A.len TL))), (13, I iI), (7, .b 2 0), (19, .o 3 1 cn), (20, I (A.oi cn)), (21, I p.1)], H := [.ob (.mp 0 p.2.2.1), .ob (.gr 3 p.2.2.2), .box (tone n), .els 1 KL], nt := 36, dfs := [] })
   (fun p => cn - p.2.1) (fun p => IsI p.1 p.2.1 /\ p.2.1 <= cn /\ RepM ((ks.take p.2.1).foldl (fun M K => addM M K (tone n)) (Mk i)) p.2.2.1 p.2.2.2 /\ LenM ((ks.take p.2.1).foldl (fun M K => addM M K (tone n)) (Mk i)) (2 * i + p.2.1)) (0, 0, e, g) ⟨⟨rfl⟩, Nat.zero_le _, u3, u4⟩ ?_ ?_
  ·exact Zf [0, 1, 2, 3] ⟨by decide, Z9, ⟨rfl, rfl, rfl, rfl, trivial⟩, ⟨rfl, rfl, rfl, rfl, rfl, rfl, rfl, rfl, rfl, trivial⟩, rfl, rfl⟩
  rintro ⟨jI, j, e, g⟩ ⟨w1, w2, w3, w4⟩;dsimp only at w1 w2 w3 w4;obtain ⟨M, hM⟩ : ∃ M, M = (ks.take j).foldl (fun M K => addM M K (tone n)) (Mk i) := ⟨_, rfl⟩;rw [<- hM] at w3 w4;refine Z2w Z0 hA hS [8] ?_;cbv;refine bm (fun cc => ?_) (fun cc => ?_)
  ·have hj : j < cn := yltN hA w1 cc;obtain ⟨K, hK⟩ : ∃ K, ks[j]? = some K := ⟨ks[j]'(by omega), List.getElem?_eq_getElem (by omega)⟩;have hKg : KL[j]? = some (I K) := by rw [hKL]; simp [hK]
   have hM2 : (ks.take (j + 1)).foldl (fun M K => addM M K (tone n)) (Mk i) = addM M K (tone n) := by
    rw [List.take_add_one, hK];simp only [Option.toList_some, List.foldl_append, List.foldl_cons, List.foldl_nil, hM]
   have hin2 := Z4o hA w1 hj;have hg2 := Z18 hA w1 hKg;have hf2 := Zy hA w1 (by omega);have hu2 := Zz hA w1;have hms2 : cn - (j + 1) < cn - j := by omega
   have hl2 := w4.add K (tone n);have hrep : keyM M K ∨ ¬ keyM M K := Classical.em _;rcases hrep with hk | hk
   ·obtain ⟨p, x, R, q1, q2, q3, q4⟩ := Z21t (tone n) K w3 hk;have q3 : ∀ z, A.mget e [K] z = some (.v x) := by subst hA; exact q3
    obtain ⟨NR, hNR⟩ : ∃ NR, NR = R.length := ⟨_, rfl⟩;have hNb : NR <= 1000000 := by have := w4 (K, R) q1; rw [hNR]; dsimp only at this; omega
    have hp : p < g.length := (List.getElem?_eq_some_iff.1 q2).1;obtain ⟨R', hR'⟩ : ∃ R', R' = R ++ [tone n] := ⟨_, rfl⟩;rw [<- hR'] at q4;have hR0 : 0 < R'.length := by rw [hR']; simp
    have hRl : A.addN NR 1 = R'.length := by rw [hR', hNR]; subst hA; simp [ar]
    have hRa : A.app R [.agg [I n, I 0, I 0]] = R' := by rw [hR']; subst hA; rfl
    obtain ⟨g1', hg1'⟩ : ∃ g1', g1' = g.set p (x, none) := ⟨_, rfl⟩;rw [<- hg1'] at q4;have hp1 : p <= g1'.length := by rw [hg1']; simp; omega
    have hp2 : ∀ ev row', g1'[p]? ≠ some (ev, some row') := fun ev row' h => by rw [hg1'] at h; simp [hp] at h
    have q4 : ∀ x', ∃ e' g', e' = A.mput e [K] (.v x') /\ g' = Zfl g1' p (x', some R') /\ RepM (addM M K (tone n)) e' g' := fun x' => ⟨_, _, rfl, rfl, by subst hA; exact q4 x'⟩;cbv;refine ⟨hin2, Need.mk ⟨_, hg2, ?_⟩⟩;cbv;refine Z4j Z0 hA hS [0, 1, 2, 3, 4] [5, 6, 7, 8] rfl ?_;cbv;refine ⟨[K], rfl, Need.mk ⟨_, q3 _, ?_⟩⟩;cbv;refine Z26 hS (Z1wx 1 p 29 hNR rfl q2 rfl (Zog 1 rfl (congrArg (fun g => Blk.ob (.gr 3 g)) hg1'.symm) (Z7 ?_)));refine Zii hS (Zke Z0 hA hS [5, 6, 7] [8] ?_);cbv;refine ⟨Ze hA hNR.symm, Ze hA rfl, Z27 hA hNb (by decide), ?_⟩;refine Z26 hS (Zog 6 rfl (congrArg (Blk.els 3) hRa) ?_);refine Z11p 1 6 p 32 hRl rfl rfl rfl hp1 hp2 hR0 fun x' hx' => ?_;obtain ⟨e', g', he', hg', hrep'⟩ := q4 x';refine Zog 1 rfl (congrArg (fun g => Blk.ob (.gr 3 g)) hg'.symm) (Z7 ?_);refine Zii hS (Z3 Z0 hA hS ?_);cbv;refine ⟨[K], rfl, ?_⟩;cbv;refine ⟨hf2, ?_⟩;refine Zog 0 rfl (congrArg (fun e => Blk.ob (.mp 0 e)) he'.symm) ?_;refine Z8 (A.add jI 1, j + 1, e', g') [0, 1, 2, 3] ⟨hu2, hj, by rw [<- hM2] at hrep'; exact hrep', by rw [<- hM2] at hl2; exact hl2⟩ hms2 ?_;exact ⟨by decide, Z9, ⟨rfl, rfl, rfl, rfl, trivial⟩, ⟨rfl, rfl, rfl, rfl, rfl, rfl, rfl, rfl, rfl, trivial⟩, rfl, rfl⟩
   ·obtain ⟨q3, q4⟩ := Z238 (tone n) K w3 hk;have q3 : ∀ z, A.mget e [K] z = some z := by subst hA; exact q3
    obtain ⟨p, hp⟩ : ∃ p, p = g.length := ⟨_, rfl⟩;rw [<- hp] at q4;have hp1 : p <= g.length := by omega
    have hp2 : ∀ ev row', g[p]? ≠ some (ev, some row') := fun ev row' h => by rw [hp] at h; simp at h
    have q4 : ∀ x', ∃ e' g', e' = A.mput e [K] (.v x') /\ g' = Zfl g p (x', some [tone n]) /\ RepM (addM M K (tone n)) e' g' := fun x' => ⟨_, _, rfl, rfl, by subst hA; exact q4 x'⟩;cbv;refine ⟨hin2, Need.mk ⟨_, hg2, ?_⟩⟩;cbv;refine Z4j Z0 hA hS [0, 1, 2, 3, 4] [5, 6, 7, 8] rfl ?_;cbv;refine ⟨[K], rfl, Need.mk ⟨_, q3 _, ?_⟩⟩;cbv;refine Zii hS (Zke Z0 hA hS [5, 6, 7] [8] ?_);cbv;refine ⟨by subst hA; rfl, by subst hA; exact ⟨by decide, by decide⟩, ?_⟩;refine Z26 hS (Z11p 1 5 p 32 (row := [tone n]) rfl rfl rfl rfl hp1 hp2 (by simp) fun x' hx' => ?_);obtain ⟨e', g', he', hg', hrep'⟩ := q4 x';refine Zog 1 rfl (congrArg (fun g => Blk.ob (.gr 3 g)) hg'.symm) (Z7 ?_);refine Zii hS (Z3 Z0 hA hS ?_);cbv;refine ⟨[K], rfl, ?_⟩;cbv;refine ⟨hf2, ?_⟩;refine Zog 0 rfl (congrArg (fun e => Blk.ob (.mp 0 e)) he'.symm) ?_;refine Z8 (A.add jI 1, j + 1, e', g') [0, 1, 2, 3] ⟨hu2, hj, by rw [<- hM2] at hrep'; exact hrep', by rw [<- hM2] at hl2; exact hl2⟩ hms2 ?_;exact ⟨by decide, Z9, ⟨rfl, rfl, rfl, rfl, trivial⟩, ⟨rfl, rfl, rfl, rfl, rfl, rfl, rfl, rfl, rfl, trivial⟩, rfl, rfl⟩
  ·have hj : cn <= j := Z19k hA w1 cc;have hMi : Mk (i + 1) = M := by rw [g7, hM, List.take_of_length_le (by omega)]
   have hlen : LenM (Mk (i + 1)) (2 * (i + 1)) := by rw [hMi]; exact fun p hp => Nat.le_trans (w4 p hp) (by omega)
   rw [<- hMi] at w3;cbv;refine Z7 ?_;cbv;refine ⟨hf1, ?_⟩;refine Z8 (A.add iI 1, i + 1, e, g) [0, 1] ⟨hu1, hi, w3, hlen⟩ hms ?_;exact ⟨by decide, Z9, ⟨rfl, rfl, trivial⟩, ⟨rfl, rfl, rfl, rfl, rfl, trivial⟩, rfl, rfl⟩
 ·have hi := Z21 hA hTl u1 c;have hiN : i = N := by omega
  rw [hiN] at u3;have hqq := hq e g u3;cbv;refine Z7 ?_;cbv;exact Z2 [0, 1] (by decide) Z9 (H' := [.ob (.mp 0 e), .ob (.gr 3 g)]) (d' := .mv 0) ⟨rfl, rfl, trivial⟩ rfl (Z1 hqq)
end Go.Proofs.YtggilmnhgjofiaaGreat

namespace Go.Proofs.YtggilmnhgjofiaaGreat
open Go Go.Abs Go.Proofs
def ns0 (s : Int) : List Int := if s = 10 then [44000, 44001, 44002, 44003, 44004, 44005, 44006, 44007, 44008, 44009] else allN
def ns1 : List Int := [44001, 44002, 44003, 44004, 44005, 44006, 44007, 44008, 44009, 44010]
theorem Z268 (s : Int) (h1 : 1 <= s) (h2 : s <= 10) : outF s allN = [(440 * s, (ns0 s).map tone), (440 * s + 1, ns1.map tone)] := by
 have : s = 1 ∨ s = 2 ∨ s = 3 ∨ s = 4 ∨ s = 5 ∨ s = 6 ∨ s = 7 ∨ s = 8 ∨ s = 9 ∨ s = 10 := by omega
 rcases this with rfl | rfl | rfl | rfl | rfl | rfl | rfl | rfl | rfl | rfl <;> rfl
theorem Z239 (n : Int) (Q) (hq : Q (RA.ret (I n)) []) : CallA Tryz.prog 63 [tone n, .cb (I 0) 0] [] Q := by
 obtain ⟨A, hA⟩ : ∃ A, A = ar := ⟨_, rfl⟩;refine Z5 Z0 hA Tryz.func63 rfl rfl rfl rfl rfl fun S hS => ?_;cbv;refine ⟨by subst hA; exact ⟨by decide, by decide⟩, Need.mk ⟨I n, by subst hA; rfl, ?_⟩⟩;cbv;exact Z2 [] (by decide) Z9 (H' := []) (d' := I n) trivial rfl (Z1 hq)
def Z20b (l : List Int) : R2 := l.foldl (fun p n => (mnI p.1 n, mxI p.2 n)) (l.headD 0, l.headD 0)
set_option maxRecDepth 40000 in
set_option maxHeartbeats 8000000 in
theorem Z26v (ns : List Int) (TL : List D) (hT : TL = ns.map tone) (hne : ns ≠ []) (hl : ns.length <= 1000) (Q) (hq : ∀ x y, (x, y) = Z20b ns -> Q (RA.ret (.agg [I x, I y])) []) : CallA Tryz.prog 62 [.sl 3 TL, .fn 63 [.cb (I 0) 0]] [] Q := by
 obtain ⟨A, hA⟩ : ∃ A, A = ar := ⟨_, rfl⟩;obtain ⟨N, hN⟩ : ∃ N, N = ns.length := ⟨_, rfl⟩;have hTl : TL.length = N := by rw [hT, hN]; simp
 obtain ⟨n0, rest, hns⟩ : ∃ n0 rest, ns = n0 :: rest := by
  cases ns with
  | nil => exact absurd rfl hne
  | cons a b => exact ⟨a, b, rfl⟩
 have h0 : A.get TL (A.tn 0) = some (tone n0) := by subst hA; rw [hT, hns]; rfl
 have hi0 : A.inb 0 (A.len TL) := by subst hA; show (0 : Int) <= 0 /\ (0 : Int) < (TL.length : Nat); rw [hTl, hN, hns]; simp
 obtain ⟨F, hF⟩ : ∃ F : Nat -> R2, F = fun k => (ns.take k).foldl (fun p n => (mnI p.1 n, mxI p.2 n)) (n0, n0) := ⟨_, rfl⟩;have hF0 : F 0 = (n0, n0) := by rw [hF]; rfl
 have hFN : ∀ k, N <= k -> F k = Z20b ns := fun k hk => by rw [hF]; show (ns.take k).foldl _ _ = _; rw [List.take_of_length_le (by omega), Z20b, hns]; rfl
 have hget : ∀ k, k < N -> ∃ n : Int, TL[k]? = some (tone n) /\ F (k + 1) = (mnI (F k).1 n, mxI (F k).2 n) := fun k hk => by
  have hk' : k < ns.length := by omega
  refine ⟨ns[k], by rw [hT]; simp [hk'], ?_⟩;rw [hF];show (ns.take (k + 1)).foldl _ _ = _;rw [List.take_add_one, List.getElem?_eq_getElem hk'];simp only [Option.toList_some, List.foldl_append, List.foldl_cons, List.foldl_nil]
 clear hF hT hns;refine Z5 Z0 hA Tryz.func62 rfl rfl rfl rfl rfl fun S hS => ?_;cbv;refine Z16 Z0 hA hS [0, 1, 2, 3, 5, 6, 7, 8, 11, 4, 9, 10, 12] rfl rfl fun Dk hDk => ?_;cbv;refine ⟨hi0, Need.mk ⟨_, h0, ?_⟩⟩;cbv;refine ⟨hi0, Need.mk ⟨_, h0, ?_⟩⟩;cbv;refine Zq hA hDk [tone n0, .cb (I 0) 0] [] [] rfl rfl rfl rfl rfl rfl rfl rfl rfl rfl rfl (by decide) trivial (Z239 n0 _ ⟨by cbv; repeat' (first | exact trivial | exact hi0 | exact Need.mk ⟨_, h0, rfl⟩ | refine ⟨?_, ?_⟩), Zx Z0 hA hDk ?_⟩);cbv;refine Zq hA hDk [tone n0, .cb (I 0) 0] [] [] rfl rfl rfl rfl rfl rfl rfl rfl rfl rfl rfl (by decide) trivial (Z239 n0 _ ⟨by cbv; repeat' (first | exact trivial | exact hi0 | exact Need.mk ⟨_, h0, rfl⟩ | refine ⟨?_, ?_⟩), Zx Z0 hA hDk ?_⟩);cbv;refine Zb hS ?_;refine Za (α := Int × Nat × Int × Int) (fun p => { env := [(1, .fn 63 [.cb (I 0) 0]), (4, .b 0 0), (5, .b 1 0), (19, .sl 3 TL), (20, I (A.oi (A.len TL))), (21, I p.1)], H := [.box (.agg [I 0, I 0]), .box (.agg [I p.2.2.1, I p.2.2.2])], nt := 40, dfs := [] })
  (fun p => N - p.2.1) (fun p => IsI p.1 p.2.1 /\ p.2.1 <= N /\ (p.2.2.1, p.2.2.2) = F p.2.1) (0, 0, n0, n0) ⟨⟨rfl⟩, Nat.zero_le _, hF0.symm⟩ ?_ ?_
 ·exact Zf [0, 1] ⟨by decide, Z9, ⟨rfl, rfl, trivial⟩, ⟨rfl, rfl, rfl, rfl, rfl, rfl, trivial⟩, rfl, rfl⟩
 rintro ⟨iI, i, lo, hi⟩ ⟨u1, u2, u3⟩;dsimp only at u1 u2 u3;refine Zi Z0 hA hS ?_;cbv;refine bm (fun c => ?_) (fun c => ?_)
 ·have hk := Z31 hA hTl u1 c;obtain ⟨n, g1, g2⟩ := hget i hk;have hin := Z1b hA hTl u1 hk;have hg := Z18 hA u1 g1;have hf1 := Zy hA u1 (by omega);have hu1 := Zz hA u1;have hms : N - (i + 1) < N - i := by omega
  have hFn : (A.min lo n, A.max hi n) = F (i + 1) := by rw [g2, <- u3]; subst hA; rfl
  clear g2;cbv;refine ⟨hin, Need.mk ⟨_, hg, ?_⟩⟩;cbv;refine Z16 Z0 hA hS [0, 1, 2, 3, 6, 7, 8, 9, 4, 5, 10, 11, 12, 13] rfl rfl fun Dk2 hDk2 => ?_;cbv;refine Zq hA hDk2 [tone n, .cb (I 0) 0] [] [] rfl rfl rfl rfl rfl rfl rfl rfl rfl rfl rfl (by decide) trivial (Z239 n _ ⟨by cbv, Zx Z0 hA hDk2 ?_⟩);cbv;refine Zq hA hDk2 [tone n, .cb (I 0) 0] [] [] rfl rfl rfl rfl rfl rfl rfl rfl rfl rfl rfl (by decide) trivial (Z239 n _ ⟨by cbv, Zx Z0 hA hDk2 ?_⟩);cbv;refine ⟨hf1, ?_⟩;refine Z8 (A.add iI 1, i + 1, A.min lo n, A.max hi n) [0, 1] ⟨hu1, hk, hFn⟩ hms ?_;exact ⟨by decide, Z9, ⟨rfl, rfl, trivial⟩, ⟨rfl, rfl, rfl, rfl, rfl, rfl, trivial⟩, rfl, rfl⟩
 ·have hk := Z21 hA hTl u1 c;have hqq := hq lo hi (u3.trans (hFN i hk));cbv;refine Z7 ?_;cbv;exact Z2 [] (by decide) Z9 (H' := []) (d' := .agg [I lo, I hi]) trivial rfl (Z1 hqq)
end Go.Proofs.YtggilmnhgjofiaaGreat

namespace Go.Proofs.YtggilmnhgjofiaaGreat
open Go Go.Abs Go.Proofs
set_option maxRecDepth 40000 in
set_option maxHeartbeats 8000000 in
theorem Z20c : Z252 := fun Q hq => by
 obtain ⟨A, hA⟩ : ∃ A, A = ar := ⟨_, rfl⟩;obtain ⟨TL, hTL⟩ : ∃ TL, TL = allT := ⟨_, rfl⟩;have hTm : TL = allN.map tone := hTL;refine Z5 Z0 hA Tryz.func31 rfl rfl rfl rfl rfl fun S hS => ?_;cbv;refine Zs7 Z0 hA hS ?_;cbv;refine Z4 hS [earD, I 0] [] [] rfl rfl rfl rfl rfl rfl rfl rfl (by decide) trivial (lOne _ (Z3 Z0 hA hS ?_));cbv;refine bmT (by subst hA; rfl) ?_;cbv;refine bmF (by subst hA; rfl) ?_;cbv;refine Z4 hS [earD, I 0] [] [] rfl rfl rfl rfl rfl rfl rfl rfl (by decide) trivial (lAsk _ (Z3 Z0 hA hS ?_));rw [<- hTL];have hTl : TL.length = 11 := by rw [hTL]; rfl
 cbv;refine bmF (by subst hA; rfl) ?_;cbv;refine Z3h hS (Z1a hA [0, 1, 2] ?_);cbv;refine ⟨Ze hA hTl, Ze hA hTl, Ze hA hTl, Ze hA hTl, Z7 ?_⟩;refine Zb hS ?_;refine Za (α := Int) (fun s => { env := [(2, I 9), (3, .cb earD 0), (4, .cb (I 0) 0), (6, I 0), (7, I 0), (9, .sl 3 TL), (11, I s)], H := [], nt := 63, dfs := [] })
  (fun s => (11 - s).toNat) (fun s => 1 <= s /\ s <= 10) 1 ⟨by decide, by decide⟩ ?_ ?_
 ·exact Zf [] ⟨by decide, Z9, trivial, ⟨rfl, rfl, rfl, rfl, rfl, rfl, rfl, trivial⟩, rfl, rfl⟩
 rintro s ⟨s1, s2⟩;refine Zi Z0 hA hS ?_;cbv;refine bmT (by subst hA; exact decide_eq_true (show s <= 20 by omega)) ?_;cbv;refine Z4 hS [.agg [I 1, I 0, I 0, I s, I 0, I 0], I 0] [] [] rfl rfl rfl rfl rfl rfl rfl rfl (by decide) trivial (Z22g s _ (Z3 Z0 hA hS ?_));cbv;refine Z4 hS [.sl 3 TL, rdD s] [] [] rfl rfl rfl rfl rfl rfl rfl rfl (by decide) trivial (Z23s s allN TL hTm (by decide) ⟨s1, by omega⟩ (by decide) _ fun e g hrep => Z3 Z0 hA hS ?_);rw [Z268 s s1 s2] at hrep;obtain ⟨R0, hR0⟩ : ∃ R0, R0 = (ns0 s).map tone := ⟨_, rfl⟩;obtain ⟨R1, hR1⟩ : ∃ R1, R1 = ns1.map tone := ⟨_, rfl⟩;obtain ⟨K0, hK0⟩ : ∃ K0, K0 = 440 * s := ⟨_, rfl⟩;obtain ⟨K1, hK1⟩ : ∃ K1, K1 = K0 + 1 := ⟨_, rfl⟩;rw [<- hR0, <- hR1, <- hK0, <- hK1] at hrep;obtain ⟨x0, e', g', rfl, rfl, -, x1, e'', g'', rfl, rfl, -, rfl, rfl⟩ := hrep;cbv;refine Z2g hS rfl rfl rfl (Z6t Z0 rfl rfl rfl rfl fun bs clock h1 h2 h3 => ?_);refine Z3 Z0 hA hS ?_;cbv;obtain ⟨c0, c1, hbs⟩ : ∃ c0 c1, bs = [c0, c1] := by
  match bs, h1 with
  | [a, b], _ => exact ⟨a, b, rfl⟩
 have hcc : c0 ≠ c1 := by rw [hbs] at h2; simpa using h2
 have hr0 : R0.length = (ns0 s).length := by rw [hR0]; simp
 have hr1 : R1.length = 10 := by rw [hR1]; rfl
 refine Zb hS ?_;refine Za (α := List Nat × Option (List D) × Option (List D)) (fun p => { env := [(2, I 9), (3, .cb earD 0), (4, .cb (I 0) 0), (6, I 0), (7, I 0), (9, .sl 3 TL), (11, I s), (47, .b 2 0)], H := [.ob (.mpx 0 [([K0], .v x0), ([K1], .v x1)] bs clock), .ob (.gr 3 [(x0, p.2.1), (x1, p.2.2)]), .ob (.mi 0 clock p.1 clock)], nt := 63, dfs := [] })
  (fun p => Z8y bs p.1) (fun p => (c0 ∉ p.1 -> p.2.1 = some R0) /\ (c1 ∉ p.1 -> p.2.2 = some R1) /\ (s < 10 -> c0 ∉ p.1)) ([], some R0, some R1) ⟨fun _ => rfl, fun _ => rfl, fun _ => by simp⟩ ?_ ?_
 ·exact Zf [0, 1, 2] ⟨by decide, Z9, ⟨rfl, rfl, rfl, trivial⟩, ⟨rfl, rfl, rfl, rfl, rfl, rfl, rfl, rfl, trivial⟩, rfl, rfl⟩
 rintro ⟨seen, o0, o1⟩ ⟨u0, u1, u2⟩;dsimp only at u0 u1 u2;refine Z2w Z0 hA hS [] ?_;cbv;refine Z2g hS rfl rfl rfl (Z7y rfl rfl rfl rfl (fun hall => ?_) (fun ix c ke hc hke hn hkl => ?_))
 ·have hs10 : s = 10 := by
   have h10 : ¬ s < 10 := fun h => absurd (hall c0 (by rw [hbs]; simp)) (u2 h);omega
  subst hs10;refine Z3 Z0 hA hS ?_;cbv;refine Z7 ?_;cbv;refine Z7 ?_;cbv;exact Z2 [] (by decide) Z9 (H' := []) (d' := .tup [I 10, I 0]) trivial rfl (Z1 hq)
 ·have hul := Z85 hc hn;obtain ⟨sn, hsn⟩ : ∃ sn, sn = seen ++ [c] := ⟨_, rfl⟩;rw [<- hsn] at hul;have hix : ix = 0 ∨ ix = 1 := by
   have := (List.getElem?_eq_some_iff.1 hke).1;simp at this; omega
  rcases hix with rfl | rfl
  ·obtain rfl : c = c0 := by rw [hbs] at hc; simpa using hc.symm
   obtain rfl : ke = ([K0], D.v x0) := by simpa using hke.symm
   dsimp only;rw [<- hsn];refine Z3 Z0 hA hS ?_;cbv;refine Z2g hS rfl rfl rfl (Z5x hsn rfl rfl rfl rfl hc rfl ?_);refine Z3 Z0 hA hS ?_;cbv;obtain rfl := u0 hn;obtain ⟨N0, hN0⟩ : ∃ N0, N0 = R0.length := ⟨_, rfl⟩;refine Z26 hS (Z1wx 1 0 52 hN0 rfl rfl rfl (Z1a hA [3] ?_));cbv;refine ⟨Ze hA hN0.symm, Z7 ?_⟩;refine Z4 hS [.sl 3 R0, .fn 63 [.cb (I 0) 0]] [] [] rfl rfl rfl rfl rfl rfl rfl rfl (by decide) trivial (Z26v (ns0 s) R0 hR0 (by unfold ns0; split <;> simp [allN]) (by unfold ns0; split <;> simp [allN]) _ fun x y hxy => Z3 Z0 hA hS ?_)
   by_cases h10 : s = 10
   ·subst h10;obtain ⟨rfl, rfl⟩ : x = 44000 /\ y = 44009 := by
     have e : Z20b (ns0 10) = (44000, 44009) := by decide
     rw [e] at hxy; cases hxy; exact ⟨rfl, rfl⟩
    cbv;refine ⟨by subst hA; exact Zbu (n := 9) (by omega), ?_⟩;refine bmF (by subst hA; rfl) ?_;cbv;refine Z8 (sn, none, o1) [0, 1, 2] ⟨fun h => absurd (by rw [hsn]; simp) h, fun h => u1 (fun h2 => h (by rw [hsn]; simp [h2])), fun h => absurd h (by decide)⟩ hul ?_;exact ⟨by decide, Z9, ⟨rfl, rfl, rfl, trivial⟩, ⟨rfl, rfl, rfl, rfl, rfl, rfl, rfl, rfl, trivial⟩, rfl, rfl⟩
   ·obtain ⟨rfl, rfl⟩ : x = 44000 /\ y = 44010 := by
     have e : Z20b (ns0 s) = (44000, 44010) := by rw [ns0, if_neg h10]; decide
     rw [e] at hxy; cases hxy; exact ⟨rfl, rfl⟩
    have hfs : A.fits .i64 (A.add s 1) := by subst hA; exact Zbu (n := s + 1) (by omega)
    have hs1 : 1 <= A.add s 1 /\ A.add s 1 <= 10 := by subst hA; show 1 <= s + 1 /\ s + 1 <= 10; omega
    have hms : (11 - A.add s 1).toNat < (11 - s).toNat := by subst hA; show (11 - (s + 1)).toNat < (11 - s).toNat; omega
    cbv;refine ⟨by subst hA; exact Zbu (n := 10) (by omega), ?_⟩;refine bmT (by subst hA; rfl) ?_;cbv;refine Z7 ?_;cbv;refine ⟨hfs, ?_⟩;refine Z8 (A.add s 1) [] hs1 hms ?_;exact ⟨by decide, Z9, trivial, ⟨rfl, rfl, rfl, rfl, rfl, rfl, rfl, trivial⟩, rfl, rfl⟩
  ·obtain rfl : c = c1 := by rw [hbs] at hc; simpa using hc.symm
   obtain rfl : ke = ([K1], D.v x1) := by simpa using hke.symm
   dsimp only;rw [<- hsn];refine Z3 Z0 hA hS ?_;cbv;refine Z2g hS rfl rfl rfl (Z5x hsn rfl rfl rfl rfl hc rfl ?_);refine Z3 Z0 hA hS ?_;cbv;obtain rfl := u1 hn;obtain ⟨N1, hN1⟩ : ∃ N1, N1 = R1.length := ⟨_, rfl⟩;refine Z26 hS (Z1wx 1 1 52 hN1 rfl rfl rfl (Z1a hA [3] ?_));cbv;refine ⟨Ze hA hN1.symm, Z7 ?_⟩;refine Z4 hS [.sl 3 R1, .fn 63 [.cb (I 0) 0]] [] [] rfl rfl rfl rfl rfl rfl rfl rfl (by decide) trivial (Z26v ns1 R1 hR1 (by simp [ns1]) (by simp [ns1]) _ fun x y hxy => Z3 Z0 hA hS ?_);obtain ⟨rfl, rfl⟩ : x = 44001 /\ y = 44010 := by
    have e : Z20b ns1 = (44001, 44010) := by decide
    rw [e] at hxy; cases hxy; exact ⟨rfl, rfl⟩
   cbv;refine ⟨by subst hA; exact Zbu (n := 9) (by omega), ?_⟩;refine bmF (by subst hA; rfl) ?_;cbv;refine Z8 (sn, o0, none) [0, 1, 2] ⟨fun h => u0 (fun h2 => h (by rw [hsn]; simp [h2])), fun h => absurd (by rw [hsn]; simp) h, fun h => by rw [hsn]; simp [u2 h, hcc]⟩ hul ?_;exact ⟨by decide, Z9, ⟨rfl, rfl, rfl, trivial⟩, ⟨rfl, rfl, rfl, rfl, rfl, rfl, rfl, rfl, trivial⟩, rfl, rfl⟩
end Go.Proofs.YtggilmnhgjofiaaGreat

namespace Go.Proofs.YtggilmnhgjofiaaGreat
open Go Go.Abs Go.Proofs
theorem Z1xm (x n least most wide : Int) (hn : -100000 <= least /\ least <= n /\ n <= most /\ most <= 100000) (hw : 0 <= wide /\ wide <= 100000) (Q)
  (hq : ∀ lo hi x', least <= lo -> lo <= n -> n <= hi -> hi <= most -> n - wide <= lo -> hi <= n + wide -> Q (RA.ret (.agg [I lo, I hi])) [pot x']) :
  CallA Tryz.prog 50 [.b 0 0, I n, I least, I most, I wide] [pot x] Q := by
 obtain ⟨A, hA⟩ : ∃ A, A = ar := ⟨_, rfl⟩;refine Z5 Z0 hA Tryz.func50 rfl rfl rfl rfl rfl fun S hS => ?_;cbv;refine Z4 hS [.b 0 0, I wide] [0] [pot x] rfl rfl rfl rfl rfl rfl rfl rfl (by decide) ⟨rfl, trivial⟩ (Zj0 x _ (by omega) _ fun a xa ha1 ha2 => ?_);refine Z3 Z0 hA hS ?_;cbv;refine Z26 hS (Z1a hA [2] ?_);cbv;refine ⟨by subst hA; rfl, Z7 ?_⟩;refine Z4 hS [.b 0 0, .sl 1 [I 0, I 0, I a]] [0] [pot xa] rfl rfl rfl rfl rfl rfl rfl rfl (by decide) ⟨rfl, trivial⟩ (of_ xa _ [0, 0, a] rfl (Nat.le_of_ble_eq_true rfl) (by simp) _ fun o xo ho => ?_);have ho' : 0 <= o /\ (o <= wide ∨ o = 0) := by simp at ho; omega
 refine Z3 Z0 hA hS ?_;cbv;refine ⟨by subst hA; exact Zbu (n := n - o) (by omega), ?_⟩;refine Z4 hS [.b 0 0, I wide] [0] [pot xo] rfl rfl rfl rfl rfl rfl rfl rfl (by decide) ⟨rfl, trivial⟩ (Zj0 xo _ (by omega) _ fun c xc hc1 hc2 => ?_);refine Z3 Z0 hA hS ?_;cbv;refine Z26 hS (Z1a hA [3] ?_);cbv;refine ⟨by subst hA; rfl, Z7 ?_⟩;refine Z4 hS [.b 0 0, .sl 1 [I 0, I 0, I c]] [0] [pot xc] rfl rfl rfl rfl rfl rfl rfl rfl (by decide) ⟨rfl, trivial⟩ (of_ xc _ [0, 0, c] rfl (Nat.le_of_ble_eq_true rfl) (by simp) _ fun p xp hp => ?_);have hp' : 0 <= p /\ (p <= wide ∨ p = 0) := by simp at hp; omega
 refine Z3 Z0 hA hS ?_;cbv;subst hA;refine ⟨Zbu (n := n + p) (by omega), Z2 [0] (by decide) (by decide) (H' := [pot xp]) (d' := .agg [I (if n - o > least then n - o else least), I (if n + p < most then n + p else most)]) ⟨rfl, trivial⟩ rfl (Z1 (hq _ _ xp ?_ ?_ ?_ ?_ ?_ ?_))⟩
 all_goals split <;> omega
structure OkS (a b c d : Int) : Prop where
 t : -30 <= a /\ a <= b /\ b <= 30
 s : -3 <= c /\ c <= d /\ d <= 3
theorem Z1zm (x tone : Int) (ht : -100000 <= tone /\ tone <= 100000) (Q) (hq : ∀ a b c d x', OkS a b c d -> Q (RA.ret (.agg [I a, I b, I c, I d])) [pot x']) : CallA Tryz.prog 24 [.b 0 0, I tone, I 1] [pot x] Q := by
 obtain ⟨A, hA⟩ : ∃ A, A = ar := ⟨_, rfl⟩;obtain ⟨z, hz⟩ : ∃ z, z = A.max (-30) (A.min 30 tone) := ⟨_, rfl⟩;have hzb : -30 <= z /\ z <= 30 := by
  rw [hz]; subst hA;show -30 <= (if (if tone < 30 then tone else 30) > -30 then (if tone < 30 then tone else 30) else -30) /\ (if (if tone < 30 then tone else 30) > -30 then (if tone < 30 then tone else 30) else -30) <= 30
  split <;> split <;> omega
 refine Z38 Z0 hA [2] Tryz.func24 rfl rfl rfl rfl rfl fun S hS => ?_;cbv;refine Z3h hS (Zo7 1 (I z) rfl (WkD.eq (congrArg (fun v => D.v (.int .i64 v)) hz.symm)) (Z7 ?_));refine Zb hS ?_;refine Z2w Z0 hA hS [] ?_;cbv;refine Z4 hS [.b 0 0, I z, I (-30), I 30, I 1] [0] [pot x] rfl rfl rfl rfl rfl rfl rfl rfl (by decide) ⟨rfl, trivial⟩ (Z1xm x z (-30) 30 1 (by omega) (by omega) _ fun a b xa g1 g2 g3 g4 _ _ => Z3 Z0 hA hS ?_);cbv;refine Z4 hS [.b 0 0, I (-2), I 2] [0] [pot xa] rfl rfl rfl rfl rfl rfl rfl rfl (by decide) ⟨rfl, trivial⟩ (Zn3 xa (-2) 2 (by omega) _ fun m xm hm1 hm2 => Z3 Z0 hA hS ?_);cbv;refine Z26 hS (Z1a hA [2] ?_);cbv;refine ⟨by subst hA; rfl, Z7 ?_⟩;refine Z4 hS [.b 0 0, .sl 1 [I 0, I 0, I m]] [0] [pot xm] rfl rfl rfl rfl rfl rfl rfl rfl (by decide) ⟨rfl, trivial⟩ (of_ xm _ [0, 0, m] rfl (Nat.le_of_ble_eq_true rfl) (by simp) _ fun o xo ho => Z3 Z0 hA hS ?_);have ho' : -2 <= o /\ o <= 2 := by simp at ho; omega
 cbv;obtain ⟨w, hw⟩ : ∃ w, w = A.min 1 1 := ⟨_, rfl⟩;have hw1 : w = 1 := by rw [hw]; subst hA; rfl
 refine Z4 hS [.b 0 0, I o, I (-3), I 3, I (A.min 1 1)] [0] [pot xo] rfl rfl rfl rfl rfl rfl rfl rfl (by decide) ⟨rfl, trivial⟩ (Z1xm xo o (-3) 3 _ (by omega) (by rw [<- hw, hw1]; decide) _ fun c d xc g5 g6 g7 g8 _ _ => Z3 Z0 hA hS ?_);have hqq := hq a b c d xc ⟨⟨g1, by omega, g4⟩, ⟨g5, by omega, g8⟩⟩;cbv;exact Z2 [0] (by decide) Z2n (H' := [pot xc]) (d' := .agg [I a, I b, I c, I d]) ⟨rfl, trivial⟩ rfl (Z1 hqq)
end Go.Proofs.YtggilmnhgjofiaaGreat

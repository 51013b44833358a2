/- Part KnownB of the proofs about the benches of the accordion maker: see the last text of the claim for what is proved. -/
import Derived.Test.YtmloogdalecilaaDoorKnownA
import Derived.Test.YtmloogdalecilaaDoorBenchD
import Derived.Test.YtmloogdalecilaaDoorMachE
set_option linter.unusedVariables false
set_option linter.unusedSimpArgs false
set_option linter.unnecessarySimpa false
set_option linter.constructorNameAsVariable false

/-! D81 -/
namespace Go.Proofs.YtmloogdalecilaaDoor
open Go Go.Abs Go.Proofs

/-- An element's row is frozen. -/
theorem gs_exF {m : Nat} {K : St → Prop} {s : St} (k L i : Nat) {es row : List D} {a b : Int} {n : Nat} (hk : nthB s.H k = some (.elo 3 es)) (hL : nthB s.H L = some (.els 3 row)) (hi : es[i]? = some (.agg [I a, I b, .o L 3 n])) (hn : n = row.length)
    (h : GS m K { s with H := (s.H.set L .dead).set k (.elo 3 (es.set i (.agg [I a, I b, .sl 3 row]))) }) : GS m K s := by
  subst hn
  exact gs_fzE k L (es' := es.set i (.agg [I a, I b, .sl 3 row])) hk hL (fzp_set (i := i) (d := .agg [I a, I b, .o L 3 row.length]) (d' := .agg [I a, I b, .sl 3 row]) ⟨rfl, fun r c' hc => by
    match r, hc with
    | 0, hc => exact .inl hc
    | 1, hc => exact .inl hc
    | 2, hc => simp [D.cells] at hc; subst hc; exact .inr ⟨rfl, rfl⟩
    | r + 3, hc => simp [D.cells] at hc⟩ rfl (fun _ => hi)) h

/-- An element's row is taken out and frozen. -/
theorem gs_exM {m : Nat} {K : St → Prop} {s : St} (k kg i : Nat) {es row : List D} {ents : List Ent} {a b : Int} {x : Value} (hk : nthB s.H k = some (.elo 3 es)) (hg : nthB s.H kg = some (.ob (.gr 3 ents))) (hj : ents[i]? = some (x, some row)) (hi : es[i]? = some (.agg [I a, I b, .v x]))
    (h : GS m K { s with H := ((s.H.set kg (.ob (.gr 3 (ents.set i (x, none))))).set k (.elo 3 (es.set i (.agg [I a, I b, .sl 3 row])))) ++ [.dead] }) : GS m K s := by
  have hkl : k < s.H.length := by rw [nthB_eq] at hk; exact (List.getElem?_eq_some_iff.1 hk).1
  have hil := (List.getElem?_eq_some_iff.1 hi).1
  refine gs_grTake kg k i i 2 (.agg [I a, I b, .o s.H.length 3 row.length]) hg hk hj hi rfl rfl ?_
  refine gs_exF k s.H.length i (es := es.set i (.agg [I a, I b, .o s.H.length 3 row.length])) (row := row) (a := a) (b := b) (n := row.length) ?_ ?_ (List.getElem?_set_self hil) rfl ?_
  · rw [nthB_eq, List.getElem?_append_left (by simpa using hkl)]
    exact List.getElem?_set_self (by simpa using hkl)
  · rw [nthB_eq, List.getElem?_append_right (by simp)]; simp
  · have e : ((((s.H.set kg (Blk.ob (.gr 3 (ents.set i (x, none))))).set k (.elo 3 (es.set i (.agg [I a, I b, .o s.H.length 3 row.length])))) ++ [Blk.els 3 row]).set s.H.length .dead).set k (.elo 3 ((es.set i (.agg [I a, I b, .o s.H.length 3 row.length])).set i (.agg [I a, I b, .sl 3 row]))) = ((s.H.set kg (.ob (.gr 3 (ents.set i (x, none))))).set k (.elo 3 (es.set i (.agg [I a, I b, .sl 3 row])))) ++ [.dead] := by
      rw [List.set_append_right _ _ (by simp)]
      simp only [List.length_set, Nat.sub_self, List.set_cons_zero]
      rw [List.set_append_left _ _ (by simpa using hkl), List.set_set, List.set_set]
    show GS m K { s with H := _ }
    rw [e]
    exact h

/-- A nil row in an element, as a row without elements. -/
theorem wk_nil3 {a b : Int} {e0 e2 : D} : WkD (.sl 3 [e0, .agg [I a, I b, .v (.slice none 0 0)], e2]) (.sl 3 [e0, .agg [I a, I b, .sl 3 []], e2]) := ⟨fun F μ v h => by
  have key : ∀ (i : Nat) (e' : D), ([e0, .agg [I a, I b, .sl 3 []], e2] : List D)[i]? = some e' → ∃ e, ([e0, .agg [I a, I b, .v (.slice none 0 0)], e2] : List D)[i]? = some e ∧ e'.cells.length = e.cells.length ∧ ∀ (r : Nat) (c' : D), e'.cells[r]? = some c' → ∃ c, e.cells[r]? = some c ∧ (c' = c ∨ (c = .v (.slice none 0 0) ∧ c' = .sl 3 [])) := by
    intro i e' he
    match i, he with
    | 0, he => simp at he; subst he; exact ⟨e0, rfl, rfl, fun r c' hc => ⟨c', hc, .inl rfl⟩⟩
    | 1, he =>
      simp at he; subst he
      refine ⟨_, rfl, rfl, fun r c' hc => ?_⟩
      match r, hc with
      | 0, hc => exact ⟨c', hc, .inl rfl⟩
      | 1, hc => exact ⟨c', hc, .inl rfl⟩
      | 2, hc => simp [D.cells] at hc; subst hc; exact ⟨_, rfl, .inr ⟨rfl, rfl⟩⟩
      | r + 3, hc => simp [D.cells] at hc
    | 2, he => simp at he; subst he; exact ⟨e2, rfl, rfl, fun r c' hc => ⟨c', hc, .inl rfl⟩⟩
    | i + 3, he => simp at he
  cases h with
  | cl _ _ hc =>
    cases hc with
    | sl sz es b o cap val hc hz hf hv =>
      refine .cl _ _ (.sl 3 _ b o cap val hc (fun i e he => ?_) (fun i e r c he hce => ?_) (fun i e r c he hce => ?_))
      · obtain ⟨e1, h1, h2, -⟩ := key i e he
        rw [h2]; exact hz i e1 h1
      · obtain ⟨e1, h1, -, h3⟩ := key i e he
        obtain ⟨c1, h4, -⟩ := h3 r c hce
        exact hf i e1 r c1 h1 h4
      · obtain ⟨e1, h1, -, h3⟩ := key i e he
        obtain ⟨c1, h4, h5⟩ := h3 r c hce
        have h6 := hv i e1 r c1 h1 h4
        rcases h5 with rfl | ⟨rfl, rfl⟩
        · exact h6
        · generalize val i r = y at h6
          cases h6 with | v x ho => exact .slE 3 none 0⟩

def exFar : Sh := ⟨2, [⟨0, 8, [⟨2, 2, 3⟩, ⟨1, 4, 4⟩]⟩, ⟨1, 6, [⟨1, 2, 2⟩, ⟨0, 3, 5⟩]⟩, ⟨0, 20, [⟨1, 1, 3⟩]⟩]⟩
def exTurn : Sh := ⟨2, [⟨0, 8, [⟨0, 3, 2⟩, ⟨1, 4, 4⟩]⟩, ⟨1, 6, [⟨1, 2, 2⟩, ⟨0, 3, 5⟩]⟩, ⟨0, 20, [⟨1, 1, 3⟩]⟩]⟩
def exIdle : Sh := ⟨2, [⟨0, 8, [⟨0, 2, 3⟩, ⟨1, 4, 4⟩]⟩, ⟨1, 6, []⟩, ⟨0, 20, [⟨1, 1, 3⟩]⟩]⟩
def exNone : Sh := ⟨0, exS.tasks⟩

set_option maxRecDepth 20000 in
set_option maxHeartbeats 16000000 in
/-- BenchKnown. -/
theorem wBenchKnown (Q) (hq : Q (RA.ret (.v (.bool true))) []) : CallA Tryd.prog 16 [] [] Q := by
  refine callA_startF (A := ar) tokT rfl [14, 18, 20] Tryd.func16 rfl rfl rfl rfl rfl fun S hS => ?_
  cbv
  refine ops_call hS [] [] [] rfl rfl rfl rfl rfl rfl rfl rfl (by decide) trivial (kShop _ ?_)
  refine ops_go (A := ar) tokT rfl hS ?_
  cbv
  refine ops_call hS [] [] [] rfl rfl rfl rfl rfl rfl rfl rfl (by decide) trivial (kShopG _ fun f0 f1 f2 => ?_)
  refine ops_go (A := ar) tokT rfl hS ?_
  cbv
  refine ops_call hS [] [] [] rfl rfl rfl rfl rfl rfl rfl rfl (by decide) trivial (kShopG _ fun t0 t1 t2 => ?_)
  refine ops_go (A := ar) tokT rfl hS ?_
  cbv
  refine ops_call hS [] [] [] rfl rfl rfl rfl rfl rfl rfl rfl (by decide) trivial (kShopG _ fun i0 i1 i2 => ?_)
  refine ops_go (A := ar) tokT rfl hS ?_
  cbv
  refine ops_call hS [] [] [] rfl rfl rfl rfl rfl rfl rfl rfl (by decide) trivial (kShop _ ?_)
  refine ops_go (A := ar) tokT rfl hS ?_
  cbv
  refine ops_call hS [] [] [] rfl rfl rfl rfl rfl rfl rfl rfl (by decide) trivial (kShop _ ?_)
  refine ops_go (A := ar) tokT rfl hS ?_
  cbv
  refine code_gs hS (gs_elo 0 rfl (gs_grTake 1 0 0 0 2 (.agg [I 0, I 8, .o 12 3 2]) rfl rfl rfl rfl rfl rfl ?_))
  refine gs_elo 2 rfl (gs_grTake 3 2 0 0 2 (.agg [I 0, I 8, .o 13 3 2]) rfl rfl rfl rfl rfl rfl ?_)
  refine gs_done ?_
  refine draw_go (A := ar) tokT rfl hS [0, 1, 2, 3, 4, 5, 6, 7, 8, 9, 10, 11, 12, 13, 14, 15, 16, 17, 18, 19, 20, 21, 22, 23] rfl rfl fun Dk hD => ?_
  cbv
  repeat (first | (refine ⟨Int.NonNeg.mk _, ?_⟩) | (refine Need.mk ⟨_, rfl, ?_⟩; cbv))
  refine draw_call (A := ar) rfl hD [I 3, I 2] [] [] rfl rfl rfl rfl rfl rfl rfl rfl rfl rfl rfl (by decide) trivial (toF 3 2 _ ⟨by cbv; repeat' (first | exact trivial | exact Need.mk ⟨_, rfl, rfl⟩ | refine ⟨?_, ?_⟩), draw_on (A := ar) tokT rfl hD ?_⟩)
  cbv
  repeat (first | (refine ⟨Int.NonNeg.mk _, ?_⟩) | (refine Need.mk ⟨_, rfl, ?_⟩; cbv) | (refine And.intro (by repeat' (first | exact trivial | exact Int.NonNeg.mk _ | exact Need.mk ⟨_, rfl, rfl⟩ | refine ⟨?_, ?_⟩)) ?_))
  refine code_gs hS (gs_exF 0 12 0 rfl rfl rfl rfl ?_)
  cbv
  refine gs_exM 0 1 1 rfl rfl rfl rfl ?_
  cbv
  refine gs_exM 0 1 2 rfl rfl rfl rfl ?_
  cbv
  refine gs_exF 2 13 0 rfl rfl rfl rfl ?_
  cbv
  refine gs_exM 2 3 1 rfl rfl rfl rfl ?_
  cbv
  refine gs_exM 2 3 2 rfl rfl rfl rfl ?_
  cbv
  refine gs_elo 4 rfl ?_
  cbv
  refine gs_exM 4 5 0 rfl rfl rfl rfl ?_
  cbv
  refine gs_exM 4 5 2 rfl rfl rfl rfl ?_
  cbv
  refine gs_els 0 rfl ⟨frL_mem.1 rfl⟩ ?_
  cbv
  refine gs_els 2 rfl ⟨frL_mem.1 rfl⟩ ?_
  cbv
  refine gs_els 4 rfl ⟨frL_mem.1 rfl⟩ ?_
  cbv
  refine gs_frz (A := ar) rfl [0, 2, 4] ?_
  cbv
  repeat (refine And.intro rfl ?_)
  refine gs_weakB 9 (shopD exIdle) rfl ⟨WkD.rfl, wk_nil3, trivial⟩ ?_
  refine gs_view (a := { env := [(1, .b 0 0), (2, .b 1 0), (3, .b 2 0), (4, .b 3 0), (5, .b 4 0), (6, .b 5 0)], H := [.box (shopD exNone), .box (shopD exFar), .box (shopD exTurn), .box (shopD exIdle), .box (shopD exS), .box (shopD exS)], nt := 299, dfs := [] }) [6, 7, 8, 9, 10, 11] ⟨by decide, pre0, ⟨rfl, rfl, rfl, rfl, rfl, rfl, trivial⟩, ⟨rfl, rfl, rfl, rfl, rfl, rfl, trivial⟩, rfl, rfl⟩ ?_
  refine gs_done ?_
  refine draw_go (A := ar) tokT rfl hS [0, 1, 2, 3, 4, 5, 6, 7, 8, 9] rfl rfl fun Dk hD => ?_
  cbv
  repeat (first | (refine ⟨Int.NonNeg.mk _, ?_⟩) | (refine Need.mk ⟨_, rfl, ?_⟩; cbv) | (refine And.intro (by repeat' (first | exact trivial | exact Int.NonNeg.mk _ | exact Need.mk ⟨_, rfl, rfl⟩ | refine ⟨?_, ?_⟩)) ?_))
  refine ops_call hS [] [] [] rfl rfl rfl rfl rfl rfl rfl rfl (by decide) trivial (filing _ ?_)
  refine ops_go (A := ar) tokT rfl hS ?_
  cbv
  refine ops_callG hS (b := false) rfl rfl rfl rfl rfl rfl rfl rfl (fun _ => ⟨[], _, [], [], [], rfl, rfl, rfl, by decide, trivial, kShop _ ?_⟩) (fun h => absurd rfl h)
  refine ops_go (A := ar) tokT rfl hS ?_
  cbv
  refine ops_callG hS (b := false) rfl rfl rfl rfl rfl rfl rfl rfl (fun _ => ⟨[], _, [shopD exS], [], [], rfl, rfl, rfl, by decide, trivial, bCheck exS ⟨by decide, by decide⟩ _ rfl 0 (by decide) _ ?_⟩) (fun h => absurd rfl h)
  refine ops_go (A := ar) tokT rfl hS ?_
  cbv
  refine ops_callG hS (b := false) rfl rfl rfl rfl rfl rfl rfl rfl (fun _ => ⟨[], _, [shopD exNone], [], [], rfl, rfl, rfl, by decide, trivial, bCheck exNone ⟨by decide, by decide⟩ _ rfl 1 (by decide) _ ?_⟩) (fun h => absurd rfl h)
  refine ops_go (A := ar) tokT rfl hS ?_
  cbv
  refine ops_callG hS (b := false) rfl rfl rfl rfl rfl rfl rfl rfl (fun _ => ⟨[], _, [shopD exFar], [], [], rfl, rfl, rfl, by decide, trivial, bCheck exFar ⟨by decide, by decide⟩ _ rfl 3 (by decide) _ ?_⟩) (fun h => absurd rfl h)
  refine ops_go (A := ar) tokT rfl hS ?_
  cbv
  refine ops_callG hS (b := false) rfl rfl rfl rfl rfl rfl rfl rfl (fun _ => ⟨[], _, [shopD exTurn], [], [], rfl, rfl, rfl, by decide, trivial, bCheck exTurn ⟨by decide, by decide⟩ _ rfl 5 (by decide) _ ?_⟩) (fun h => absurd rfl h)
  refine ops_go (A := ar) tokT rfl hS ?_
  cbv
  refine ops_callG hS (b := false) rfl rfl rfl rfl rfl rfl rfl rfl (fun _ => ⟨[], _, [shopD exIdle], [], [], rfl, rfl, rfl, by decide, trivial, bCheck exIdle ⟨by decide, by decide⟩ _ rfl 7 (by decide) _ ?_⟩) (fun h => absurd rfl h)
  refine ops_go (A := ar) tokT rfl hS ?_
  cbv
  refine ops_call hS [] [] [] rfl rfl rfl rfl rfl rfl rfl rfl (by decide) trivial (kShop _ ?_)
  refine ops_go (A := ar) tokT rfl hS ?_
  cbv
  refine ops_call hS [shopD exS] [] [] rfl rfl rfl rfl rfl rfl rfl rfl (by decide) trivial (bLoad exS exOk.fin _ rfl _ (fun h => absurd exOk.chk h) fun _ LL hLL => ?_)
  obtain rfl : LL = [rngD (5, 8), rngD (7, 9)] := hLL.trans exLoadN
  refine ops_go (A := ar) tokT rfl hS ?_
  cbv
  refine ops_call hS [] [] [] rfl rfl rfl rfl rfl rfl rfl rfl (by decide) trivial (kShop _ ?_)
  refine ops_go (A := ar) tokT rfl hS ?_
  cbv
  refine ops_call hS [] [] [] rfl rfl rfl rfl rfl rfl rfl rfl (by decide) trivial (kPlan _ ?_)
  refine ops_go (A := ar) tokT rfl hS ?_
  cbv
  refine ops_call hS [shopD exS, .sl 1 (planL exP)] [] [] rfl rfl rfl rfl rfl rfl rfl rfl (by decide) trivial (bRunPlan exS exOk exP exPlan _ _ rfl rfl _ fun LL hLL => ?_)
  obtain rfl : LL = exRun.map slotD := by rw [hLL, exRunN]
  refine ops_go (A := ar) tokT rfl hS ?_
  cbv
  refine ops_call hS [] [] [] rfl rfl rfl rfl rfl rfl rfl rfl (by decide) trivial (kShop _ ?_)
  refine ops_go (A := ar) tokT rfl hS ?_
  cbv
  refine ops_call hS [] [] [] rfl rfl rfl rfl rfl rfl rfl rfl (by decide) trivial (kPlan _ ?_)
  refine ops_go (A := ar) tokT rfl hS ?_
  cbv
  refine ops_call hS [shopD exS, .sl 1 (planL exP)] [] [] rfl rfl rfl rfl rfl rfl rfl rfl (by decide) trivial (bLastPlan exS exOk exP exPlan _ _ rfl rfl _ fun lo hi h => ?_)
  obtain ⟨rfl, rfl⟩ : (8 : Int) = lo ∧ (10 : Int) = hi := by rw [exLastN] at h; exact Prod.mk.inj h
  refine ops_go (A := ar) tokT rfl hS ?_
  cbv
  refine ops_call hS [] [] [] rfl rfl rfl rfl rfl rfl rfl rfl (by decide) trivial (kShop _ ?_)
  refine ops_go (A := ar) tokT rfl hS ?_
  cbv
  refine ops_call hS [] [] [] rfl rfl rfl rfl rfl rfl rfl rfl (by decide) trivial (kPlan _ ?_)
  refine ops_go (A := ar) tokT rfl hS ?_
  cbv
  refine ops_call hS [shopD exS, .sl 1 (planL exP)] [] [] rfl rfl rfl rfl rfl rfl rfl rfl (by decide) trivial (bLatePlan exS exOk exP exPlan _ _ rfl rfl _ fun LL hLL => ?_)
  obtain rfl : LL = [I 3, I 3, I 2] := by rw [hLL, exLateN]; rfl
  refine ops_go (A := ar) tokT rfl hS ?_
  cbv
  refine ops_call hS [] [] [] rfl rfl rfl rfl rfl rfl rfl rfl (by decide) trivial (kShop _ ?_)
  refine ops_go (A := ar) tokT rfl hS ?_
  cbv
  refine ops_call hS [] [] [] rfl rfl rfl rfl rfl rfl rfl rfl (by decide) trivial (kPlan _ ?_)
  refine ops_go (A := ar) tokT rfl hS ?_
  cbv
  refine ops_call hS [shopD exS, .sl 1 (planL exP)] [] [] rfl rfl rfl rfl rfl rfl rfl rfl (by decide) trivial (bCritPlan exS exOk exP exPlan _ _ rfl rfl _ fun LL hLL => ?_)
  obtain rfl : LL = [I 1, I 3, I 4] := by rw [hLL, exCritN]; rfl
  refine ops_go (A := ar) tokT rfl hS ?_
  cbv
  refine draw_go (A := ar) tokT rfl hS [0, 1, 2, 3, 4, 5, 6, 7, 8, 9, 10, 11, 12, 13, 14, 15, 16, 17, 18, 19, 20, 21, 22, 23, 24, 25, 26, 27, 28, 29, 30, 31, 32, 33, 34, 35, 36, 37, 38, 39, 40, 41, 42] rfl rfl fun Dk hD => ?_
  cbv
  refine draw_callG (A := ar) rfl hD (b := false) rfl rfl rfl rfl rfl rfl rfl rfl rfl rfl rfl (fun _ => ⟨[], _, [I 8, I 10], [], [], rfl, rfl, rfl, by decide, trivial, toF 8 10 _ ⟨by cbv; repeat' (first | exact trivial | exact Int.NonNeg.mk _ | exact Need.mk ⟨_, rfl, rfl⟩ | refine ⟨?_, ?_⟩), draw_on (A := ar) tokT rfl hD ?_⟩⟩) (fun h => absurd rfl h)
  cbv
  refine FlatEq.mk ⟨[8, 10], [8, 10], rfl, rfl, rfl, rfl, ?_⟩
  cbv
  refine draw_callG (A := ar) rfl hD (b := false) rfl rfl rfl rfl rfl rfl rfl rfl rfl rfl rfl (fun _ => ⟨[], _, [I 5, I 8], [], [], rfl, rfl, rfl, by decide, trivial, toF 5 8 _ ⟨by cbv; repeat' (first | exact trivial | exact Int.NonNeg.mk _ | exact Need.mk ⟨_, rfl, rfl⟩ | refine ⟨?_, ?_⟩), draw_on (A := ar) tokT rfl hD ?_⟩⟩) (fun h => absurd rfl h)
  cbv
  refine draw_callG (A := ar) rfl hD (b := false) rfl rfl rfl rfl rfl rfl rfl rfl rfl rfl rfl (fun _ => ⟨[], _, [I 7, I 9], [], [], rfl, rfl, rfl, by decide, trivial, toF 7 9 _ ⟨by cbv; repeat' (first | exact trivial | exact Int.NonNeg.mk _ | exact Need.mk ⟨_, rfl, rfl⟩ | refine ⟨?_, ?_⟩), draw_on (A := ar) tokT rfl hD ?_⟩⟩) (fun h => absurd rfl h)
  cbv
  repeat (first | (refine ⟨Int.NonNeg.mk _, ?_⟩) | (refine Need.mk ⟨_, rfl, ?_⟩; cbv) | (refine And.intro rfl ?_))
  refine draw_callFG (A := ar) rfl hD [7] false rfl rfl rfl rfl rfl rfl rfl rfl rfl fun CG hC => ?_
  cbv
  rw [hC]
  refine callG_of [.sl 2 [.agg [I 5, I 8], .agg [I 7, I 9]], .sl 2 [.agg [I 5, I 8], .agg [I 7, I 9]]] [] [] rfl rfl rfl rfl rfl (by decide) trivial (kSameRanges [(5, 8), (7, 9)] [(5, 8), (7, 9)] _ _ rfl rfl (by decide) true (by decide) _ (aftG_of (A := ar) rfl tokT hD (by cbv; repeat' (first | exact trivial | exact Int.NonNeg.mk _ | exact Need.mk ⟨_, rfl, rfl⟩ | refine ⟨?_, ?_⟩)) ?_))
  cbv
  repeat (first | (refine ⟨Int.NonNeg.mk _, ?_⟩) | (refine Need.mk ⟨_, rfl, ?_⟩; cbv) | (refine And.intro rfl ?_))
  refine draw_callFG (A := ar) rfl hD [8] false rfl rfl rfl rfl rfl rfl rfl rfl rfl fun CG hC => ?_
  cbv
  rw [hC]
  refine callG_of [.sl 1 [I 3, I 3, I 2], .sl 1 [I 3, I 3, I 2]] [] [] rfl rfl rfl rfl rfl (by decide) trivial (kSameInts [3, 3, 2] [3, 3, 2] _ _ rfl rfl (by decide) true (by decide) _ (aftG_of (A := ar) rfl tokT hD (by cbv; repeat' (first | exact trivial | exact Int.NonNeg.mk _ | exact Need.mk ⟨_, rfl, rfl⟩ | refine ⟨?_, ?_⟩)) ?_))
  cbv
  repeat (first | (refine ⟨Int.NonNeg.mk _, ?_⟩) | (refine Need.mk ⟨_, rfl, ?_⟩; cbv) | (refine And.intro rfl ?_))
  refine draw_callFG (A := ar) rfl hD [9] false rfl rfl rfl rfl rfl rfl rfl rfl rfl fun CG hC => ?_
  cbv
  rw [hC]
  refine callG_of [.sl 1 [I 1, I 3, I 4], .sl 1 [I 1, I 3, I 4]] [] [] rfl rfl rfl rfl rfl (by decide) trivial (kSameInts [1, 3, 4] [1, 3, 4] _ _ rfl rfl (by decide) true (by decide) _ (aftG_of (A := ar) rfl tokT hD (by cbv; repeat' (first | exact trivial | exact Int.NonNeg.mk _ | exact Need.mk ⟨_, rfl, rfl⟩ | refine ⟨?_, ?_⟩)) ?_))
  cbv
  repeat (first | (refine ⟨Int.NonNeg.mk _, ?_⟩) | (refine Need.mk ⟨_, rfl, ?_⟩; cbv) | (refine And.intro rfl ?_))
  refine ops_call hS [I 2, I 3] [] [] rfl rfl rfl rfl rfl rfl rfl rfl (by decide) trivial (toF 2 3 _ ?_)
  refine ops_go (A := ar) tokT rfl hS ?_
  cbv
  refine ops_call hS [I 1, I 1] [] [] rfl rfl rfl rfl rfl rfl rfl rfl (by decide) trivial (toF 1 1 _ ?_)
  refine ops_go (A := ar) tokT rfl hS ?_
  cbv
  refine ops_call hS [I 3, I 3] [] [] rfl rfl rfl rfl rfl rfl rfl rfl (by decide) trivial (toF 3 3 _ ?_)
  refine ops_go (A := ar) tokT rfl hS ?_
  cbv
  refine ops_call hS [I 3, I 3] [] [] rfl rfl rfl rfl rfl rfl rfl rfl (by decide) trivial (toF 3 3 _ ?_)
  refine ops_go (A := ar) tokT rfl hS ?_
  cbv
  refine ops_call hS [I 6, I 8] [] [] rfl rfl rfl rfl rfl rfl rfl rfl (by decide) trivial (toF 6 8 _ ?_)
  refine ops_go (A := ar) tokT rfl hS ?_
  cbv
  refine ops_call hS [I 3, I 3] [] [] rfl rfl rfl rfl rfl rfl rfl rfl (by decide) trivial (toF 3 3 _ ?_)
  refine ops_go (A := ar) tokT rfl hS ?_
  cbv
  refine ops_call hS [I 4, I 6] [] [] rfl rfl rfl rfl rfl rfl rfl rfl (by decide) trivial (toF 4 6 _ ?_)
  refine ops_go (A := ar) tokT rfl hS ?_
  cbv
  refine ops_call hS [I 4, I 6] [] [] rfl rfl rfl rfl rfl rfl rfl rfl (by decide) trivial (toF 4 6 _ ?_)
  refine ops_go (A := ar) tokT rfl hS ?_
  cbv
  refine ops_call hS [I 8, I 10] [] [] rfl rfl rfl rfl rfl rfl rfl rfl (by decide) trivial (toF 8 10 _ ?_)
  refine ops_go (A := ar) tokT rfl hS ?_
  cbv
  refine code_gs hS (gs_frz (A := ar) rfl [10] ?_)
  cbv
  refine gs_view (a := { env := [(5, .b 0 0), (6, .b 1 0), (9, .sl 7 (exRun.map slotD)), (17, .sl 7 (exRun.map slotD))], H := [.box (shopD exL), .box (shopD exTwo)], nt := 299, dfs := [] }) [4, 5] ⟨by decide, pre0, ⟨rfl, rfl, trivial⟩, ⟨rfl, rfl, rfl, rfl, trivial⟩, rfl, rfl⟩ ?_
  refine gs_done (at_code hS (wp_go (A := ar) tokT rfl hS ?_))
  cbv
  refine ops_call hS [] [] [] rfl rfl rfl rfl rfl rfl rfl rfl (by decide) trivial (kShop _ ?_)
  refine ops_go (A := ar) tokT rfl hS ?_
  cbv
  refine ops_call hS [shopD exS] [] [] rfl rfl rfl rfl rfl rfl rfl rfl (by decide) trivial (bPrompt exS exOk _ rfl _ fun PL n hP hn => ?_)
  obtain rfl : PL = planL [0, 0, 1, 1, 2] := by rw [hP, exPromptS]
  obtain rfl : n = 1 := by rw [hn, exPromptS]
  refine ops_go (A := ar) tokT rfl hS ?_
  cbv
  refine draw_go (A := ar) tokT rfl hS [0, 1, 2, 3, 4, 5, 6, 7, 8, 9, 10, 11, 12, 13] rfl rfl fun Dk hD => ?_
  cbv
  repeat (first | (refine ⟨Int.NonNeg.mk _, ?_⟩) | (refine Need.mk ⟨_, rfl, ?_⟩; cbv) | (refine And.intro rfl ?_))
  refine draw_call (A := ar) rfl hD [] [] [] rfl rfl rfl rfl rfl rfl rfl rfl rfl rfl rfl (by decide) trivial (kShop _ ⟨by cbv; repeat' (first | exact trivial | exact Int.NonNeg.mk _ | exact Need.mk ⟨_, rfl, rfl⟩ | refine ⟨?_, ?_⟩), draw_on (A := ar) tokT rfl hD ?_⟩)
  cbv
  repeat (first | (refine ⟨Int.NonNeg.mk _, ?_⟩) | (refine Need.mk ⟨_, rfl, ?_⟩; cbv) | (refine And.intro rfl ?_))
  refine draw_callF (A := ar) rfl hD [2] rfl rfl rfl rfl rfl rfl fun CG hC => ?_
  cbv
  rw [hC]
  refine callG_of [shopD exTwo, .sl 1 [I 0, I 1, I 1, I 0], taskD exT2] [] [] rfl rfl rfl rfl rfl (by decide) trivial (bPutIn exTwo ⟨by decide, by decide⟩ ⟨by decide, by decide⟩ [0, 1, 1, 0] (by decide) _ _ rfl rfl exT2 _ rfl ⟨by decide, by decide⟩ _ (fun e h1 h2 => absurd (h1.trans exPutE.1) h2) (fun e _ h1 h2 => absurd (h1.trans exPutE.2) h2) fun p hp he hx BL n hB hn => ?_)
  obtain rfl := ex_nat he
  rw [exPutN] at hB hn
  obtain rfl : BL = planL [0, 1, 1, 0, 2] := hB
  obtain rfl : n = 10 := hn
  refine aftG_of (A := ar) rfl tokT hD (by cbv; repeat' (first | exact trivial | exact Int.NonNeg.mk _ | exact Need.mk ⟨_, rfl, rfl⟩ | refine ⟨?_, ?_⟩)) ?_
  cbv
  repeat (first | (refine ⟨Int.NonNeg.mk _, ?_⟩) | (refine Need.mk ⟨_, rfl, ?_⟩; cbv) | (refine And.intro rfl ?_))
  refine ops_call hS [] [] [] rfl rfl rfl rfl rfl rfl rfl rfl (by decide) trivial (kShop _ ?_)
  refine ops_part (A := ar) tokT rfl hS [1, 2, 3] [4, 5, 6, 7, 8, 9, 10] ?_
  cbv
  refine ops_gs hS (gs_frz (A := ar) rfl [3, 4, 5] ?_)
  cbv
  refine gs_done (at_ops hS (ops_part (A := ar) tokT rfl hS [4] [5, 6, 7, 8, 9, 10] ?_))
  cbv
  refine ops_gs hS (gs_frz (A := ar) rfl [6] ?_)
  cbv
  refine gs_done ?_
  refine ops_call hS [shopD exS, .sl 1 [.sl 1 [I 0, I 3], .sl 1 [I 1, I 3], .sl 1 [I 7]]] [] [] rfl rfl rfl rfl rfl rfl rfl rfl (by decide) trivial (bClashAny exS exOk.fin [[0, 3], [1, 3], [7]] ⟨by decide, by decide⟩ _ _ rfl rfl _ fun a b e h => ?_)
  obtain ⟨rfl, rfl, rfl⟩ : a = 0 ∧ b = 0 ∧ e = 11 := by rw [exClash1] at h; exact ⟨congrArg (fun x => x.1) h, congrArg (fun x => x.2.1) h, congrArg (fun x => x.2.2) h⟩
  refine ops_go (A := ar) tokT rfl hS ?_
  cbv
  refine ops_call hS [] [] [] rfl rfl rfl rfl rfl rfl rfl rfl (by decide) trivial (kShop _ ?_)
  refine ops_part (A := ar) tokT rfl hS [1, 2, 3] [4, 5, 6, 7, 8, 9, 10, 11, 12] ?_
  cbv
  refine ops_gs hS (gs_frz (A := ar) rfl [7, 8, 9] ?_)
  cbv
  refine gs_done (at_ops hS (ops_part (A := ar) tokT rfl hS [4] [5, 6, 7, 8, 9, 10, 11, 12] ?_))
  cbv
  refine ops_gs hS (gs_frz (A := ar) rfl [10] ?_)
  cbv
  refine gs_done ?_
  refine ops_call hS [shopD exS, .sl 1 [.sl 1 [I 0, I 3], .sl 1 [I 0, I 3], .sl 1 [I 7]]] [] [] rfl rfl rfl rfl rfl rfl rfl rfl (by decide) trivial (bClashAny exS exOk.fin [[0, 3], [0, 3], [7]] ⟨by decide, by decide⟩ _ _ rfl rfl _ fun a b e h => ?_)
  obtain ⟨rfl, rfl, rfl⟩ : a = 1 ∧ b = 0 ∧ e = 0 := by rw [exClash2] at h; exact ⟨congrArg (fun x => x.1) h, congrArg (fun x => x.2.1) h, congrArg (fun x => x.2.2) h⟩
  refine ops_go (A := ar) tokT rfl hS ?_
  cbv
  refine code_gs hS (gs_view (a := { env := [(5, .b 0 0), (8, I 0), (9, .sl 7 (exRun.map slotD)), (10, I 0), (12, I 11), (14, I 0), (17, .sl 7 (exRun.map slotD)), (18, .sl 1 [I 0, I 0, I 1, I 1, I 2]), (19, I 1), (20, .sl 1 [I 0, I 1, I 1, I 0, I 2]), (21, I 10), (22, I 1), (23, I 0)], H := [.box (shopD exL)], nt := 299, dfs := [] }) [0] ⟨by decide, pre0, ⟨rfl, trivial⟩, ⟨rfl, rfl, rfl, rfl, rfl, rfl, rfl, rfl, rfl, rfl, rfl, rfl, rfl, trivial⟩, rfl, rfl⟩ ?_)
  refine gs_done (at_code hS (wp_go (A := ar) tokT rfl hS ?_))
  cbv
  refine ops_callG hS (b := false) rfl rfl rfl rfl rfl rfl rfl rfl (fun _ => ⟨[], _, [.sl 7 (exRun.map slotD), .sl 7 (exRun.map slotD)], [], [], rfl, rfl, rfl, by decide, trivial, kSameSlots exRun _ rfl (by decide) _ ?_⟩) (fun h => absurd rfl h)
  refine ops_part (A := ar) tokT rfl hS [34, 35, 36, 37, 38] [39, 40, 41, 42, 43, 44, 45, 46, 47] ?_
  cbv
  refine ops_gs hS (gs_frz (A := ar) rfl [1] ?_)
  cbv
  refine gs_done ?_
  refine ops_callG hS (b := false) rfl rfl rfl rfl rfl rfl rfl rfl (fun _ => ⟨[], _, [.sl 1 [I 0, I 0, I 1, I 1, I 2], .sl 1 [I 0, I 0, I 1, I 1, I 2]], [], [], rfl, rfl, rfl, by decide, trivial, kSameInts [0, 0, 1, 1, 2] [0, 0, 1, 1, 2] _ _ rfl rfl (by decide) true (by decide) _ ?_⟩) (fun h => absurd rfl h)
  refine ops_part (A := ar) tokT rfl hS [40, 41, 42, 43, 44] [45, 46, 47] ?_
  cbv
  refine ops_gs hS (gs_frz (A := ar) rfl [2] ?_)
  cbv
  refine gs_done ?_
  refine ops_callG hS (b := false) rfl rfl rfl rfl rfl rfl rfl rfl (fun _ => ⟨[], _, [.sl 1 [I 0, I 1, I 1, I 0, I 2], .sl 1 [I 0, I 1, I 1, I 0, I 2]], [], [], rfl, rfl, rfl, by decide, trivial, kSameInts [0, 1, 1, 0, 2] [0, 1, 1, 0, 2] _ _ rfl rfl (by decide) true (by decide) _ ?_⟩) (fun h => absurd rfl h)
  refine ops_go (A := ar) tokT rfl hS ?_
  cbv
  refine code_gs hS (gs_view (a := { env := [(5, .b 0 0)], H := [.box (shopD exL)], nt := 299, dfs := [] }) [0] ⟨by decide, pre0, ⟨rfl, trivial⟩, ⟨rfl, trivial⟩, rfl, rfl⟩ ?_)
  refine gs_done (at_code hS (wp_go (A := ar) tokT rfl hS ?_))
  cbv
  refine ops_call hS [] [] [] rfl rfl rfl rfl rfl rfl rfl rfl (by decide) trivial (kShop _ ?_)
  refine ops_part (A := ar) tokT rfl hS [1] [2, 3, 4, 5, 6] ?_
  cbv
  refine ops_gs hS (gs_frz (A := ar) rfl [1] ?_)
  cbv
  refine gs_done ?_
  refine ops_call hS [shopD exS, .sl 1 [I 0, I 1, I 1, I 2]] [] [] rfl rfl rfl rfl rfl rfl rfl rfl (by decide) trivial (bRunErr exS exOk.fin [0, 1, 1, 2] (by decide) _ _ rfl rfl 7 exRunF (by decide) _ ?_)
  refine ops_go (A := ar) tokT rfl hS ?_
  cbv
  refine ops_call hS [] [] [] rfl rfl rfl rfl rfl rfl rfl rfl (by decide) trivial (kShop _ ?_)
  refine ops_part (A := ar) tokT rfl hS [1] [2, 3, 4, 5, 6] ?_
  cbv
  refine ops_gs hS (gs_frz (A := ar) rfl [2] ?_)
  cbv
  refine gs_done ?_
  refine ops_call hS [shopD exS, .sl 1 [I 0, I 1, I 1, I 2, I 0, I 0]] [] [] rfl rfl rfl rfl rfl rfl rfl rfl (by decide) trivial (bRunErr exS exOk.fin [0, 1, 1, 2, 0, 0] (by decide) _ _ rfl rfl 6 exRunM (by decide) _ ?_)
  refine ops_go (A := ar) tokT rfl hS ?_
  cbv
  refine ops_call hS [] [] [] rfl rfl rfl rfl rfl rfl rfl rfl (by decide) trivial (kShop _ ?_)
  refine ops_part (A := ar) tokT rfl hS [1] [2, 3, 4, 5, 6] ?_
  cbv
  refine ops_gs hS (gs_frz (A := ar) rfl [3] ?_)
  cbv
  refine gs_done ?_
  refine ops_call hS [shopD exS, .sl 1 [I 0, I 1, I 1, I 3]] [] [] rfl rfl rfl rfl rfl rfl rfl rfl (by decide) trivial (bRunErr exS exOk.fin [0, 1, 1, 3] (by decide) _ _ rfl rfl 3 exRunU (by decide) _ ?_)
  refine ops_go (A := ar) tokT rfl hS ?_
  cbv
  refine ops_call hS [shopD exL] [] [] rfl rfl rfl rfl rfl rfl rfl rfl (by decide) trivial (kWriteL _ ?_)
  refine ops_go (A := ar) tokT rfl hS ?_
  cbv
  exact gh_view [] (by decide) pre0 (H' := []) (d' := .v (.bool true)) trivial rfl (gh_done hq)
end Go.Proofs.YtmloogdalecilaaDoor

/- Part TrueC of the proofs about the benches of the accordion maker: see the last text of the claim for what is proved. -/
import Derived.Test.YtmloogdalecilaaDoorTrueB
set_option linter.unusedVariables false
set_option linter.unusedSimpArgs false
set_option linter.unnecessarySimpa false
set_option linter.constructorNameAsVariable false

/-! D41 -/
namespace Go.Proofs.YtmloogdalecilaaDoor
open Go Go.Abs Go.Proofs

set_option maxRecDepth 20000 in
set_option maxHeartbeats 8000000 in
theorem r22_10 {A : Ar} (hA : A = ar) {S : Stop} (hS : S = theStop Tryd.prog none 0) {ops : Array Oper} (hop : ops = ops22) (OL RL EL VL FL TL : List D) (en i j x3 b lo hi : Int) (N k m n : Nat) (x y : Sl) (o o2 : Stt) (u1 : IsI i k) (v1 : IsI j m) (hk : k < n) (hm : m < n) (hRl : RL.length = n) (hOl : OL.length = n)
    (hRLy : RL[m]? = some (.agg [I y.t, I y.k, I y.b, I y.bl, I y.bh, I y.el, I y.eh])) (hOy : OL[m]? = some (.agg [I o2.t, I o2.k, I o2.b, I o2.bg, I o2.en])) (hOx : OL[k]? = some (.agg [I o.t, I o.k, I o.b, I o.bg, I o.en])) (hb1 : A.cmp .eql o2.b o.b = true) (hb2 : A.cmp .eql y.b x.b = true) (ht1 : A.cmp .eql y.t x.t = false) (hl1 : A.cmp .lss o.bg o2.en = false) (hl2 : A.cmp .lss x.bl y.el = false) (hl3 : A.cmp .lss x.bh y.eh = false)
    (Q : AX → St → Prop) (hq : Q .normal { env := [(4, .b 1 0), (6, .sl 5 OL), (7, .sl 7 RL), (9, .sl 2 EL), (11, .b 2 0), (13, .sl 1 VL), (15, I en), (16, .o 3 1 N), (17, I i), (18, .b 4 0), (19, I j), (255, .v (.bool false))], H := [.box (.agg [U x3]), .box (.agg [I b, .sl 3 TL]), .box (.agg [I lo, I hi]), .els 1 FL, .box (.agg [I x.t, I x.k, I x.b, I x.bl, I x.bh, I x.el, I x.eh])], nt := 317, dfs := [] }) :
    S.code (.region 22 ops true) Q { env := [(4, .b 1 0), (6, .sl 5 OL), (7, .sl 7 RL), (9, .sl 2 EL), (11, .b 2 0), (13, .sl 1 VL), (15, I en), (16, .o 3 1 N), (17, I i), (18, .b 4 0), (19, I j)], H := [.box (.agg [U x3]), .box (.agg [I b, .sl 3 TL]), .box (.agg [I lo, I hi]), .els 1 FL, .box (.agg [I x.t, I x.k, I x.b, I x.bl, I x.bh, I x.el, I x.eh])], nt := 317, dfs := [] } := by
  subst hop
  have i2 := yinbL hA hOl u1 hk
  have j1 := yinbL hA hRl v1 hm
  have j2 := yinbL hA hOl v1 hm
  have g2 := yget hA u1 hOx
  have h1 := yget hA v1 hRLy
  have h2 := yget hA v1 hOy
  refine code_gx hS ?_
  refine draw_goE tokT hA hS [10] [0, 1, 2, 3, 4, 5, 6, 7, 8, 9, 10, 11, 12, 13, 14, 15, 16, 17, 18, 19, 20, 21, 22, 23, 24, 25, 26, 27, 28, 29, 30, 31, 32, 33, 34, 35, 36, 37, 38, 39, 40, 41, 42, 43, 44, 45, 46, 47, 48, 49, 50, 51, 52, 53, 54, 55, 56, 57, 58, 59, 60, 61, 62, 63, 64, 65, 66, 67, 68, 69, 70, 71, 72, 73, 74, 75, 76, 77, 78, 79, 80, 81, 82, 83, 84, 85, 86, 87, 88, 89, 90, 91] e22 p22 fun Dk2 hD2 => ?_
  cbv
  refine ⟨j2, ⟨_, h2, ?_⟩⟩
  cbv
  refine ⟨i2, ⟨_, g2, ?_⟩⟩
  cbv
  refine draw_val tokT hA hD2 [22] (.v (.bool true)) rfl rfl rfl rfl rfl rfl (congrArg (fun b => D.v (.bool b)) hb1) ?_
  cbv
  refine ⟨i2, ⟨_, g2, ?_⟩⟩
  cbv
  refine ⟨j2, ⟨_, h2, ?_⟩⟩
  cbv
  refine draw_valG tokT hA hD2 [32] (.v (.bool false)) rfl rfl rfl rfl rfl rfl rfl rfl rfl (congrArg (fun b => D.v (.bool b)) hl1) ?_
  cbv
  refine ⟨j1, ⟨_, h1, ?_⟩⟩
  cbv
  refine draw_valG tokT hA hD2 [43] (.v (.bool true)) rfl rfl rfl rfl rfl rfl rfl rfl rfl (congrArg (fun b => D.v (.bool b)) hb2) ?_
  cbv
  refine ⟨j1, ⟨_, h1, ?_⟩⟩
  cbv
  refine draw_valG tokT hA hD2 [54] (.v (.bool false)) rfl rfl rfl rfl rfl rfl rfl rfl rfl (congrArg (fun b => D.v (.bool b)) hl2) ?_
  cbv
  refine ⟨j1, ⟨_, h1, ?_⟩⟩
  cbv
  refine draw_valG tokT hA hD2 [66] (.v (.bool false)) rfl rfl rfl rfl rfl rfl rfl rfl rfl (congrArg (fun b => D.v (.bool b)) hl3) ?_
  cbv
  refine ⟨j1, ⟨_, h1, ?_⟩⟩
  cbv
  refine draw_valG tokT hA hD2 [77] (.v (.bool false)) rfl rfl rfl rfl rfl rfl rfl rfl rfl (congrArg (fun b => D.v (.bool b)) ht1) ?_
  cbv
  refine draw_thru tokT hA hD2 [88] ?_
  cbv
  refine draw_thru tokT hA hD2 [] ?_
  cbv
  exact gs_view (a := { env := [(4, .b 1 0), (6, .sl 5 OL), (7, .sl 7 RL), (9, .sl 2 EL), (11, .b 2 0), (13, .sl 1 VL), (15, I en), (16, .o 3 1 N), (17, I i), (18, .b 4 0), (19, I j), (255, .v (.bool false))], H := [.box (.agg [U x3]), .box (.agg [I b, .sl 3 TL]), .box (.agg [I lo, I hi]), .els 1 FL, .box (.agg [I x.t, I x.k, I x.b, I x.bl, I x.bh, I x.el, I x.eh])], nt := 317, dfs := [] }) [0, 1, 2, 3, 4] ⟨by decide, pre0, ⟨rfl, rfl, rfl, rfl, rfl, trivial⟩, ⟨rfl, rfl, rfl, rfl, rfl, rfl, rfl, rfl, rfl, rfl, rfl, rfl, trivial⟩, rfl, rfl⟩ (gs_done hq)

end Go.Proofs.YtmloogdalecilaaDoor

/-! D42 -/
namespace Go.Proofs.YtmloogdalecilaaDoor
open Go Go.Abs Go.Proofs

set_option maxRecDepth 20000 in
set_option maxHeartbeats 8000000 in
theorem r22_11 {A : Ar} (hA : A = ar) {S : Stop} (hS : S = theStop Tryd.prog none 0) {ops : Array Oper} (hop : ops = ops22) (OL RL EL VL FL TL : List D) (en i j x3 b lo hi : Int) (N k m n : Nat) (x y : Sl) (o o2 : Stt) (u1 : IsI i k) (v1 : IsI j m) (hk : k < n) (hm : m < n) (hRl : RL.length = n) (hOl : OL.length = n)
    (hRLy : RL[m]? = some (.agg [I y.t, I y.k, I y.b, I y.bl, I y.bh, I y.el, I y.eh])) (hOy : OL[m]? = some (.agg [I o2.t, I o2.k, I o2.b, I o2.bg, I o2.en])) (hOx : OL[k]? = some (.agg [I o.t, I o.k, I o.b, I o.bg, I o.en])) (hb1 : A.cmp .eql o2.b o.b = true) (hb2 : A.cmp .eql y.b x.b = true) (ht1 : A.cmp .eql y.t x.t = true) (hl1 : A.cmp .lss o.bg o2.en = false) (hl2 : A.cmp .lss x.bl y.el = false) (hl3 : A.cmp .lss x.bh y.eh = false) (hl4 : A.cmp .lss x.bl y.el = false) (hl5 : A.cmp .lss x.bh y.eh = false)
    (Q : AX → St → Prop) (hq : Q .normal { env := [(4, .b 1 0), (6, .sl 5 OL), (7, .sl 7 RL), (9, .sl 2 EL), (11, .b 2 0), (13, .sl 1 VL), (15, I en), (16, .o 3 1 N), (17, I i), (18, .b 4 0), (19, I j), (255, .v (.bool false))], H := [.box (.agg [U x3]), .box (.agg [I b, .sl 3 TL]), .box (.agg [I lo, I hi]), .els 1 FL, .box (.agg [I x.t, I x.k, I x.b, I x.bl, I x.bh, I x.el, I x.eh])], nt := 317, dfs := [] }) :
    S.code (.region 22 ops true) Q { env := [(4, .b 1 0), (6, .sl 5 OL), (7, .sl 7 RL), (9, .sl 2 EL), (11, .b 2 0), (13, .sl 1 VL), (15, I en), (16, .o 3 1 N), (17, I i), (18, .b 4 0), (19, I j)], H := [.box (.agg [U x3]), .box (.agg [I b, .sl 3 TL]), .box (.agg [I lo, I hi]), .els 1 FL, .box (.agg [I x.t, I x.k, I x.b, I x.bl, I x.bh, I x.el, I x.eh])], nt := 317, dfs := [] } := by
  subst hop
  have i2 := yinbL hA hOl u1 hk
  have j1 := yinbL hA hRl v1 hm
  have j2 := yinbL hA hOl v1 hm
  have g2 := yget hA u1 hOx
  have h1 := yget hA v1 hRLy
  have h2 := yget hA v1 hOy
  refine code_gx hS ?_
  refine draw_goE tokT hA hS [10] [0, 1, 2, 3, 4, 5, 6, 7, 8, 9, 10, 11, 12, 13, 14, 15, 16, 17, 18, 19, 20, 21, 22, 23, 24, 25, 26, 27, 28, 29, 30, 31, 32, 33, 34, 35, 36, 37, 38, 39, 40, 41, 42, 43, 44, 45, 46, 47, 48, 49, 50, 51, 52, 53, 54, 55, 56, 57, 58, 59, 60, 61, 62, 63, 64, 65, 66, 67, 68, 69, 70, 71, 72, 73, 74, 75, 76, 77, 78, 79, 80, 81, 82, 83, 84, 85, 86, 87, 88, 89, 90, 91] e22 p22 fun Dk2 hD2 => ?_
  cbv
  refine ⟨j2, ⟨_, h2, ?_⟩⟩
  cbv
  refine ⟨i2, ⟨_, g2, ?_⟩⟩
  cbv
  refine draw_val tokT hA hD2 [22] (.v (.bool true)) rfl rfl rfl rfl rfl rfl (congrArg (fun b => D.v (.bool b)) hb1) ?_
  cbv
  refine ⟨i2, ⟨_, g2, ?_⟩⟩
  cbv
  refine ⟨j2, ⟨_, h2, ?_⟩⟩
  cbv
  refine draw_valG tokT hA hD2 [32] (.v (.bool false)) rfl rfl rfl rfl rfl rfl rfl rfl rfl (congrArg (fun b => D.v (.bool b)) hl1) ?_
  cbv
  refine ⟨j1, ⟨_, h1, ?_⟩⟩
  cbv
  refine draw_valG tokT hA hD2 [43] (.v (.bool true)) rfl rfl rfl rfl rfl rfl rfl rfl rfl (congrArg (fun b => D.v (.bool b)) hb2) ?_
  cbv
  refine ⟨j1, ⟨_, h1, ?_⟩⟩
  cbv
  refine draw_valG tokT hA hD2 [54] (.v (.bool false)) rfl rfl rfl rfl rfl rfl rfl rfl rfl (congrArg (fun b => D.v (.bool b)) hl2) ?_
  cbv
  refine ⟨j1, ⟨_, h1, ?_⟩⟩
  cbv
  refine draw_valG tokT hA hD2 [66] (.v (.bool false)) rfl rfl rfl rfl rfl rfl rfl rfl rfl (congrArg (fun b => D.v (.bool b)) hl3) ?_
  cbv
  refine ⟨j1, ⟨_, h1, ?_⟩⟩
  cbv
  refine draw_valG tokT hA hD2 [77] (.v (.bool true)) rfl rfl rfl rfl rfl rfl rfl rfl rfl (congrArg (fun b => D.v (.bool b)) ht1) ?_
  cbv
  refine ⟨j1, ⟨_, h1, ?_⟩⟩
  cbv
  refine draw_valG tokT hA hD2 [88] (.v (.bool false)) rfl rfl rfl rfl rfl rfl rfl rfl rfl (congrArg (fun b => D.v (.bool b)) hl4) ?_
  cbv
  refine ⟨j1, ⟨_, h1, ?_⟩⟩
  cbv
  refine draw_valG tokT hA hD2 [] (.v (.bool false)) rfl rfl rfl rfl rfl rfl rfl rfl rfl (congrArg (fun b => D.v (.bool b)) hl5) ?_
  cbv
  exact gs_view (a := { env := [(4, .b 1 0), (6, .sl 5 OL), (7, .sl 7 RL), (9, .sl 2 EL), (11, .b 2 0), (13, .sl 1 VL), (15, I en), (16, .o 3 1 N), (17, I i), (18, .b 4 0), (19, I j), (255, .v (.bool false))], H := [.box (.agg [U x3]), .box (.agg [I b, .sl 3 TL]), .box (.agg [I lo, I hi]), .els 1 FL, .box (.agg [I x.t, I x.k, I x.b, I x.bl, I x.bh, I x.el, I x.eh])], nt := 317, dfs := [] }) [0, 1, 2, 3, 4] ⟨by decide, pre0, ⟨rfl, rfl, rfl, rfl, rfl, trivial⟩, ⟨rfl, rfl, rfl, rfl, rfl, rfl, rfl, rfl, rfl, rfl, rfl, rfl, trivial⟩, rfl, rfl⟩ (gs_done hq)

end Go.Proofs.YtmloogdalecilaaDoor

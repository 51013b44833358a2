/- Part CloseC of the proofs about the benches of the accordion maker: see the last text of the claim for what is proved. -/
import Derived.Test.YtecfpfhkicapeaaCloseB
set_option linter.unusedVariables false
set_option linter.unusedSimpArgs false
set_option linter.unnecessarySimpa false
set_option linter.constructorNameAsVariable false

namespace Go.Proofs.Ytecfpfhkicapeaa
open Go Go.Abs Go.Proofs Go.Batch
open Go.ChangeShapes Go.WideShapes Go.RowKit
set_option maxRecDepth 100000 in
theorem Z101 {fnum : FuncId} (walk : ∀ (j : Jn) (_ : JFin j) (FL ML : List D) (_ : FL = j.first.map Zv) (_ : ML = j.moves.map mvD) (m : Mv) (a b : Int) (L : List D) (nums : List Int) (_ : L = nums.map I) (_ : L.length <= 9223372036854775807) (Q), Q (RA.ret (.v (.bool true))) [] -> CallA Try.prog fnum [.agg [I j.ins, .sl 1 FL, .sl 5 ML], mvD m, I a, I b, .sl 1 L] [] Q) : Zlf fnum [25, 29, 3, 3, 30] := by
 intro H enc W base vs ds p hA hval hlite;obtain ⟨v0, vs, d0, ds', p0, q0, rfl, rfl, rfl, h0, hA⟩ := trodAll_cons hA;obtain ⟨v1, vs, d1, ds', p1, q1, rfl, rfl, rfl, h1, hA⟩ := trodAll_cons hA;obtain ⟨v2, vs, d2, ds', p2, q2, rfl, rfl, rfl, h2, hA⟩ := trodAll_cons hA;obtain ⟨v3, vs, d3, ds', p3, q3, rfl, rfl, rfl, h3, hA⟩ := trodAll_cons hA;obtain ⟨v4, vs, d4, ds', p4, q4, rfl, rfl, rfl, h4, hA⟩ := trodAll_cons hA;obtain ⟨rfl, rfl, rfl⟩ := trodAll_nil hA;obtain ⟨j, hj, k0⟩ := Znm (hval 0 25 v0 rfl rfl) h0 (hlite 0 25 d0 rfl rfl);obtain ⟨m, k1⟩ := Zw3 (hval 1 29 v1 rfl rfl) h1;obtain ⟨a, k2⟩ := Z108 (hval 2 3 v2 rfl rfl);obtain ⟨b, k3⟩ := Z108 (hval 3 3 v3 rfl rfl);obtain ⟨nums, hl, k4⟩ := Zvu (hval 4 30 v4 rfl rfl) h4;exact ⟨[.agg [I j.ins, .sl 1 (j.first.map Zv), .sl 5 (j.moves.map mvD)], mvD m, I a, I b, .sl 1 (nums.map I)], rfl, fun i d v hd hv => by
  match i, hd, hv with
  | 0, hd, hv => simp at hd hv; subst hd; subst hv; exact k0
  | 1, hd, hv => simp at hd hv; subst hd; subst hv; exact k1
  | 2, hd, hv => simp at hd hv; subst hd; subst hv; exact k2
  | 3, hd, hv => simp at hd hv; subst hd; subst hv; exact k3
  | 4, hd, hv => simp at hd hv; subst hd; subst hv; exact k4
  | i + 5, hd, hv => simp at hd, fun Q hq => walk j hj _ _ rfl rfl m a b _ nums rfl hl Q hq⟩
set_option maxRecDepth 100000 in
theorem Z102 {fnum : FuncId} (walk : ∀ (j : Jn) (_ : JFin j) (FL ML : List D) (_ : FL = j.first.map Zv) (_ : ML = j.moves.map mvD) (BL : List D) (bs : List Int) (_ : BL = bs.map I) (_ : BL.length <= 9223372036854775807) (XL : List D) (xs : List Int) (_ : XL = xs.map I) (_ : XL.length <= 9223372036854775807) (YL : List D) (ys : List Int) (_ : YL = ys.map I) (_ : YL.length <= 9223372036854775807) (L : List D) (nums : List Int) (_ : L = nums.map I) (_ : L.length <= 9223372036854775807) (Q), Q (RA.ret (.v (.bool true))) [] -> CallA Try.prog fnum [.agg [I j.ins, .sl 1 FL, .sl 5 ML], .sl 1 BL, .sl 1 XL, .sl 1 YL, .sl 1 L] [] Q) : Zlf fnum [25, 30, 30, 30, 30] := by
 intro H enc W base vs ds p hA hval hlite;obtain ⟨v0, vs, d0, ds', p0, q0, rfl, rfl, rfl, h0, hA⟩ := trodAll_cons hA;obtain ⟨v1, vs, d1, ds', p1, q1, rfl, rfl, rfl, h1, hA⟩ := trodAll_cons hA;obtain ⟨v2, vs, d2, ds', p2, q2, rfl, rfl, rfl, h2, hA⟩ := trodAll_cons hA;obtain ⟨v3, vs, d3, ds', p3, q3, rfl, rfl, rfl, h3, hA⟩ := trodAll_cons hA;obtain ⟨v4, vs, d4, ds', p4, q4, rfl, rfl, rfl, h4, hA⟩ := trodAll_cons hA;obtain ⟨rfl, rfl, rfl⟩ := trodAll_nil hA;obtain ⟨j, hj, k0⟩ := Znm (hval 0 25 v0 rfl rfl) h0 (hlite 0 25 d0 rfl rfl);obtain ⟨n1, hl1, k1⟩ := Zvu (hval 1 30 v1 rfl rfl) h1;obtain ⟨n2, hl2, k2⟩ := Zvu (hval 2 30 v2 rfl rfl) h2;obtain ⟨n3, hl3, k3⟩ := Zvu (hval 3 30 v3 rfl rfl) h3;obtain ⟨n4, hl4, k4⟩ := Zvu (hval 4 30 v4 rfl rfl) h4;exact ⟨[.agg [I j.ins, .sl 1 (j.first.map Zv), .sl 5 (j.moves.map mvD)], .sl 1 (n1.map I), .sl 1 (n2.map I), .sl 1 (n3.map I), .sl 1 (n4.map I)], rfl, fun i d v hd hv => by
  match i, hd, hv with
  | 0, hd, hv => simp at hd hv; subst hd; subst hv; exact k0
  | 1, hd, hv => simp at hd hv; subst hd; subst hv; exact k1
  | 2, hd, hv => simp at hd hv; subst hd; subst hv; exact k2
  | 3, hd, hv => simp at hd hv; subst hd; subst hv; exact k3
  | 4, hd, hv => simp at hd hv; subst hd; subst hv; exact k4
  | i + 5, hd, hv => simp at hd, fun Q hq => walk j hj _ _ rfl rfl _ n1 rfl hl1 _ n2 rfl hl2 _ n3 rfl hl3 _ n4 rfl hl4 Q hq⟩
end Go.Proofs.Ytecfpfhkicapeaa

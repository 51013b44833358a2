/- Part AsB of the proofs about the benches of the accordion maker: see the last text of the claim for what is proved. -/
import Derived.Test.YtegjabljeepbdaaGreatDoorAsA
import Derived.Test.YtegjabljeepbdaaGreatDoorRunL
set_option linter.unusedVariables false
set_option linter.unusedSimpArgs false
set_option linter.unnecessarySimpa false
set_option linter.constructorNameAsVariable false

namespace Go.Proofs.YtegjabljeepbdaaGreatDoor.Bn
open Go Go.Abs Go.Proofs
theorem Z1dj (w : World) (o : Obj) : (w.alloc o).heap = w.heap.push o := rfl
theorem Z1dc {w : World} {o : Obj} {b : Nat} (h : b < w.heap.size) : (w.alloc o).heap[b]? = w.heap[b]? /\ b < (w.alloc o).heap.size := by
 rw [Z1dj]; exact ⟨by rw [Array.getElem?_push, if_neg (Nat.ne_of_lt h)], by rw [Array.size_push]; omega⟩
theorem Z1d7 {F : Fz} {μ : Mu} {H : List Blk} {w : World} (h : HR F μ H w) (o : Obj) : HR F μ H (w.alloc o) /\ Post F μ H w F μ H (w.alloc o) := by
 have := Z5e (μ' := μ) (H' := H) (w' := w.alloc o) (fun _ => False) h (Nat.le_refl _) (fun _ _ => rfl) (fun _ _ => rfl) (fun _ _ _ => Iff.rfl) (fun _ h => h.elim) (by rw [Z1dj, Array.size_push]; omega) rfl rfl rfl
  (fun b hb _ => (Z1dc hb).1) (fun _ _ h => h.elim) (fun _ _ _ h => h.elim) (fun _ h => h.elim) (fun _ _ _ _ h => h.elim) (fun _ _ h => h.elim) (fun _ _ _ h => h.elim) (fun _ h => h.elim) (fun _ _ h => h.elim)
 exact ⟨this.1, this.2.1⟩
theorem Z1e7 (n m : Int) (Q) (hq : Q (RA.ret (.v (.bool true))) [.box (.agg [I n])]) : CallA Tryz.prog 94 [.ifc 160 (.agg [I n]), .ifc 165 (.b 0 0)] [.box (.agg [I m])] Q := by
 refine ⟨⟨_, Tryz.func94, by kernel_rfl, by kernel_rfl⟩, fun F μ vs w hr hl hv => ?_⟩;have hsz : vs.size = 2 := hl.symm;obtain ⟨x0, e0⟩ : ∃ x, vs[0]? = some x := ⟨_, Array.getElem?_eq_getElem (by omega)⟩;obtain ⟨x1, e1⟩ : ∃ x, vs[1]? = some x := ⟨_, Array.getElem?_eq_getElem (by omega)⟩;have hvs : vs = #[x0, x1] := by
  apply Array.ext_getElem?
  intro i
  match i with
  | 0 => rw [e0]; rfl
  | 1 => rw [e1]; rfl
  | i + 2 => rw [Array.getElem?_eq_none (by omega), Array.getElem?_eq_none (by simp)]
 obtain ⟨y0, rfl, h0⟩ := VR.ifc_inv (hv 0 _ x0 rfl e0);obtain ⟨y1, rfl, h1⟩ := VR.ifc_inv (hv 1 _ x1 rfl e1);obtain ⟨cs, rfl, hcl, hcv, -⟩ := VR.agg_inv h0;have hcs : cs = #[.int .i64 n] := by
  have h2 : cs.size = 1 := hcl.symm;obtain ⟨z, ez⟩ : ∃ z, cs[0]? = some z := ⟨_, Array.getElem?_eq_getElem (by omega)⟩;have := VR.v_inv (hcv 0 _ z rfl ez);subst this
  apply Array.ext_getElem?
  intro i
  match i with
  | 0 => rw [ez]; rfl
  | i + 1 => rw [Array.getElem?_eq_none (by omega), Array.getElem?_eq_none (by simp)]
 subst hcs;obtain ⟨b, m0, rfl, hμ⟩ : ∃ b m0, y1 = .pointer (some ⟨b, 0, none⟩) /\ μ 0 = some (some (b, m0)) := by
  cases h1 with
  | cl _ _ hc => cases hc
  | b _ _ b m h => exact ⟨b, m, rfl, h⟩
 subst hvs;have hblk : Z17 [Blk.box (.agg [I m])] 0 = some (1, [.agg [I m]]) := rfl;rcases hr.row 0 1 _ hblk (by rw [hμ]; simp) with ⟨e, -⟩ | ⟨b', m', c, ty, e, hw, hcz, hle, hc⟩
 ·rw [hμ] at e; cases e
 rw [hμ] at e; cases e;obtain ⟨v0, g1, g2, g3⟩ := (hc 0 _ rfl).2 0 _ rfl;have hv0 := VR.v_inv g3;subst hv0;have hcell : w.cell? ⟨b, 0, none⟩ = some (.int .i64 m) := by simp only [World.cell?, hw]; simpa using g1
 have hfz : w.frozen? ⟨b, 0, none⟩ = false := by simp [World.frozen?, hw]
 have hh := (hr.frz 0 0 Zxj F.kn).1;have hcall := Z1e2 n ⟨b, 0, none⟩ _ w hh hcell hfz;refine CallsIn.mono (callsIn_wide.2 hcall) fun e w' he => ?_;obtain ⟨rfl, rfl⟩ := he;obtain ⟨r1, p1⟩ := Z1d7 hr (.cells #[.pointer (some ⟨b, 0, none⟩)] 165);obtain ⟨r2, p2⟩ := Z1d7 r1 (.cells #[.pointer (some ⟨1, 165, none⟩), .pointer (some ⟨w.heap.size, 0, none⟩), .int .u64 150] 207);obtain ⟨r3, p3⟩ := Z1d7 r2 (.cells #[.pointer (some ⟨1, 165, none⟩), .pointer (some ⟨w.heap.size, 0, none⟩), .int .u64 150] 207);obtain ⟨r4, p4⟩ := Z1d7 r3 (.cells #[.int .i64 n] 160);have pp := ((p1.trans p2).trans p3).trans p4;have hblt := (Array.getElem?_eq_some_iff.1 hw).1
 generalize hW : (((w.alloc (.cells #[.pointer (some ⟨b, 0, none⟩)] 165)).alloc (.cells #[.pointer (some ⟨1, 165, none⟩), .pointer (some ⟨w.heap.size, 0, none⟩), .int .u64 150] 207)).alloc (.cells #[.pointer (some ⟨1, 165, none⟩), .pointer (some ⟨w.heap.size, 0, none⟩), .int .u64 150] 207)).alloc (.cells #[.int .i64 n] 160) = W at r4 pp ⊢
 have hwW : W.heap[b]? = some (.cells c ty (0, 0)) := by
  rcases r4.row 0 1 _ hblk (by rw [hμ]; simp) with ⟨e, -⟩ | ⟨b2, m2, c2, ty2, e, hw2, -, -, -⟩
  ·rw [hμ] at e; cases e
  ·rw [<- hW];have h3 : ∀ (w : World) (o : Obj), b < w.heap.size -> (w.alloc o).heap[b]? = w.heap[b]? /\ b < (w.alloc o).heap.size := fun w o h => Z1dc h;rw [(h3 _ _ (h3 _ _ (h3 _ _ (h3 _ _ hblt).2).2).2).1, (h3 _ _ (h3 _ _ (h3 _ _ hblt).2).2).1, (h3 _ _ (h3 _ _ hblt).2).1, (h3 _ _ hblt).1]; exact hw
 have hlt0 : 0 < c.size := (Array.getElem?_eq_some_iff.1 (by simpa using g1)).1;have hup := Zqx (w' := W.setCell ⟨b, 0, none⟩ (.int .i64 n)) (x := .box (.agg [I n])) (c' := c.setIfInBounds 0 (.int .i64 n)) (sz' := 1) (es' := [.agg [I n]]) r4 hblk hμ hwW (by
   have hb2 := (Array.getElem?_eq_some_iff.1 hwW).1
   apply Array.ext_getElem?
   intro i
   simp only [World.setCell, Array.getElem?_modify, Array.getElem?_setIfInBounds]
   by_cases e : b = i
   ·subst e; rw [if_pos rfl, if_pos rfl, if_pos hb2, hwW]; rfl
   ·rw [if_neg e, if_neg e]) rfl rfl rfl (by simpa using hcz) (fun _ _ e => by cases e) rfl (by simpa using hle) (fun i d hd => by
   match i, hd with
   | 0, hd =>
    simp at hd; subst hd
    refine ⟨rfl, fun r cc hcc => ?_⟩
    match r, hcc with
    | 0, hcc => simp [D.cells] at hcc; subst hcc; exact ⟨.int .i64 n, by simp [Array.getElem?_setIfInBounds, hlt0], rfl, .cl _ _ (.v _ rfl)⟩
    | r + 1, hcc => simp [D.cells] at hcc
   | i + 1, hd => simp at hd)
 refine ⟨F, μ, [.box (.agg [I n])], .v (.bool true), ⟨pp.trans hup.2, hup.1, Nat.le_refl _, fun _ _ => rfl, fun k hk => ?_⟩, .cl _ _ (.v _ rfl), hq⟩
 match k, hk with
 | 0, hk => cases hk
 | k + 1, hk => simp [Z13] at hk
end Go.Proofs.YtegjabljeepbdaaGreatDoor.Bn

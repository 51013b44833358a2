/- Part RefB of the proofs about the benches of the accordion maker: see the last text of the claim for what is proved. -/
import Derived.Test.YtecfpfhkicapeaaRefA
import Derived.Test.YtecfpfhkicapeaaBatA
import Derived.Test.YtecfpfhkicapeaaBatD
set_option linter.unusedVariables false
set_option linter.unusedSimpArgs false
set_option linter.unnecessarySimpa false
set_option linter.constructorNameAsVariable false

namespace Go.Proofs.Ytecfpfhkicapeaa
open Go Go.Abs Go.Proofs Go.Batch
theorem rMove (j : Jn) (hj : JOk j) (q : Go.Batch.Ask) (hqb : q.batches.length ≤ 1000000) (FL ML QB : List D) (hF : FL = j.first.map bolD) (hQB : QB = q.batches.map I) (k : Nat) (m : Mv) (hmk : j.moves[k]? = some m) (BL : List D) (hB : BL = (binsOf (j.moves.take k)).map I) (nb : Nat) (hnb : nb = comeN j k)
    (s : Ste Int) (hs : s ∈ preS j (askTk q) 0 k) (LL : List D) (hL : LL = s.1.map I) (NX : List D) (T : Ste Int → Prop) (hV : MarkV NX T) (Q) (hq : ∀ d NX', MarkV NX' (fun s' => T s' ∨ s' ∈ stepS j (askTk q) (binsOf j.moves) m (comeN j k) s) → Q (RA.ret d) [.els 1 BL, .els 1 NX']) :
    CallA Try.prog 132 [.agg [I j.ins, .sl 1 FL, .sl 5 ML], askD q QB, .o 0 1 nb, mvA m, I s.2, .sl 1 LL, .o 1 1 20736] [.els 1 BL, .els 1 NX] Q := by
  have hmo := hj.mv m (List.mem_of_getElem? hmk)
  have hok := pre_ok hj q k s hs
  have hok2 : ∀ s' ∈ stepS j (askTk q) (binsOf j.moves) m (comeN j k) s, LOk s'.1 ∧ 0 ≤ s'.2 ∧ s'.2 ≤ 15 := fun s' h' => by
    have := pre_ok hj q (k + 1) s' (by rw [preS_succ hmk]; exact List.mem_flatMap.2 ⟨s, hs, h'⟩)
    exact ⟨this.l, this.n0, this.n15⟩
  obtain ⟨ext, hext⟩ := bins_take j k
  obtain ⟨bs, hbs⟩ : ∃ bs, bs = binsOf (j.moves.take k) := ⟨_, rfl⟩
  have hnb2 : nb = bs.length := by rw [hnb, hbs]; rfl
  have hcl := comeN_le j k
  have hb4 := hj.b4
  have hbs4 : bs.length ≤ 4 := by omega
  rw [← hbs] at hB hext
  have hst : stepS j (askTk q) (binsOf j.moves) m (comeN j k) s = stepS j (askTk q) bs m nb (s.1, s.2) := by
    rw [hext, ← hnb]
    exact stepS_ext bs ext hbs4 hok.l.len fun n hn => hok.z n (by rw [← hnb, hnb2]; exact hn)
  rw [hst] at hq hok2
  have hml := hmo.l0
  have hmh := hmo.lh
  have hm5 := hmo.h5
  have hqD : ∃ a b c L, askD q QB = .agg [I a, I b, I c, .sl 1 L] := ⟨_, _, _, _, rfl⟩
  have hi4 := hj.i4
  have hi1 := hj.i1
  have h13 := hmo.k1
  have h33 := hmo.k3
  by_cases h1 : m.kind = 1
  · refine rMove1 j.ins FL ML _ hqD bs (by have := come_lt hmk h1; omega) BL nb hnb2 m h1 ⟨hml, hmh, hm5⟩ s.2 ⟨hok.n0, hok.n15⟩ s.1 hok.l LL hL NX T hV Q fun d NX' h => hq d NX' (h.congr fun s' => ?_)
    unfold stepS
    rw [if_pos h1]
  by_cases h2 : m.kind = 2
  · have hb0 := hmo.b0
    have hb1 := hmo.b1
    have hlt : m.bin.toNat < j.first.length := by omega
    have hso := fun s' => step_out hi4 (q := q) hbs4 hmo h2 hok.l (x := s.2) (b := nb) s'
    refine rMove2 j.ins j.ins.toNat ⟨by omega⟩ (by omega) FL ML q hqb QB hQB bs hbs4 BL hB nb hnb2 m h2 ⟨hml, hmh, hm5⟩ (j.first.getD m.bin.toNat false) m.bin.toNat j.first.length ⟨by omega⟩ hlt (by rw [hF, List.length_map]) (by
      rw [hF, List.getElem?_map, List.getD_eq_getElem?_getD, List.getElem?_eq_getElem hlt]; rfl) s.2 ⟨hok.n0, hok.n15⟩ s.1 hok.l LL hL (fun a of k' ha hof hk' => ?_) NX T hV Q fun d NX' h => hq d NX' (h.congr fun s' => by rw [hso s'])
    have := hok2 (wayS q s.1 of s.2 k') ((hso _).2 ⟨a, ha, of, hof, k', hk', rfl⟩)
    exact this
  · have h3 : m.kind = 3 := by omega
    refine rMove3 j.ins FL ML _ hqD bs hbs4 BL hB nb hnb2 m h3 s.2 ⟨hok.n0, hok.n15⟩ s.1 hok.l LL hL NX T hV Q fun d NX' h => hq d NX' (h.congr fun s' => ?_)
    unfold stepS
    rw [if_neg h1, if_neg h2]
end Go.Proofs.Ytecfpfhkicapeaa

namespace Go.Proofs.Ytecfpfhkicapeaa
open Go Go.Abs Go.Proofs Go.Batch
theorem mark_new : MarkV (markD (List.replicate 20736 false)) fun _ => False := ⟨_, rfl, marks_new⟩
theorem mark_rep {A : Ar} (hA : A = ar) {NX : List D} (h : NX = markD (List.replicate 20736 false)) : A.rep (A.tn 20736) (.v (.bool false)) = NX := by
  subst hA
  rw [h]
  unfold markD
  rw [List.map_replicate]; rfl
theorem MarkV.is {NX : List D} {T : Ste Int → Prop} (h : MarkV NX T) {n : Nat} (hn : n < 20736) : ∃ b, NX[n]? = some (.v (.bool b)) ∧ (b = true ↔ T (stateS n)) := by
  obtain ⟨L, rfl, h2⟩ := h.ex
  have hl : n < L.length := by rw [Go.Batch.Marks.len h2]; exact hn
  refine ⟨L[n], ?_, ?_⟩
  · unfold markD
    rw [List.getElem?_map, List.getElem?_eq_getElem hl]; rfl
  · rw [← Go.Batch.Marks.at_ h2 n hn, List.getElem?_eq_getElem hl]
    exact ⟨fun h => by rw [h], fun h => Option.some.inj h⟩
theorem before_next {S : List (Ste Int)} (hs : ∀ s ∈ S, LOk s.1 ∧ 0 ≤ s.2 ∧ s.2 ≤ 15) (n : Nat) (s : Ste Int) : before S (n + 1) s ↔ before S n s ∨ stateS n ∈ S ∧ s = stateS n := by
  unfold before
  constructor
  · rintro ⟨h1, h2⟩
    by_cases e : placeS s = n
    · have h3 : stateS n = s := by rw [← e]; exact state_place (hs s h1).1 (hs s h1).2.1
      exact .inr ⟨by rw [h3]; exact h1, h3.symm⟩
    · exact .inl ⟨h1, by omega⟩
  · rintro (⟨h1, h2⟩ | ⟨h1, rfl⟩)
    · exact ⟨h1, by omega⟩
    · exact ⟨h1, by rw [place_state]; omega⟩
set_option maxRecDepth 40000 in
set_option maxHeartbeats 16000000 in
theorem rFollow (j : Jn) (hj : JOk j) (q : Go.Batch.Ask) (hqb : q.batches.length ≤ 1000000) (FL ML QB : List D) (hF : FL = j.first.map bolD) (hM : ML = j.moves.map mvD) (hQB : QB = q.batches.map I) (Q) (hq : ∀ NX, MarkV NX (fun s => s ∈ endsS j (askTk q) 0) → Q (RA.ret (.sl 1 NX)) []) :
    CallA Try.prog 124 [.agg [I j.ins, .sl 1 FL, .sl 5 ML], askD q QB] [] Q := by
  obtain ⟨A, hA⟩ : ∃ A, A = ar := ⟨_, rfl⟩
  have hMl : ML.length = j.moves.length := by rw [hM]; simp
  have hm10 := hj.m10
  have hb4 := hj.b4
  have htn : A.tn 20736 = 20736 := by subst hA; rfl
  have hnn : A.nneg 20736 := by subst hA; show (0 : Int) ≤ 20736; decide
  have hrm : A.room (A.tn 20736) 1 := by rw [htn]; subst hA; exact ⟨by show 20736 * 1 ≤ 140737488355328; omega, by show 20736 ≤ 4611686018427387904; omega⟩
  obtain ⟨N0, hN0⟩ : ∃ N0, N0 = markD (List.replicate 20736 false) := ⟨_, rfl⟩
  have hV0 : MarkV N0 fun _ => False := by rw [hN0]; exact mark_new
  have hrep := mark_rep hA hN0
  obtain ⟨S0, hS0⟩ : ∃ S0 : Nat → List (Ste Int), S0 = fun k => preS j (askTk q) 0 k := ⟨_, rfl⟩
  have hSok : ∀ k, ∀ s ∈ S0 k, LOk s.1 ∧ 0 ≤ s.2 ∧ s.2 ≤ 15 := fun k s h => by
    rw [hS0] at h
    have := pre_ok hj q k s h
    exact ⟨this.l, this.n0, this.n15⟩
  have hmove := fun k m hmk BL hB nb hnb s hs LL hL NX T hV Q h => rMove j hj q hqb FL ML QB hF hQB k m hmk BL hB nb hnb s hs LL hL NX T hV Q h
  have hi0 : IsI (0 : Int) 0 := ⟨rfl⟩
  obtain ⟨z0, hz0, -⟩ := hV0.is (n := 0) (by decide)
  have iZ : A.inb 0 (A.tn 20736) := by rw [htn]; exact yinb hA hi0 (by decide)
  have gZ : A.get (A.rep (A.tn 20736) (.v (.bool false))) (A.tn 0) = some (.v (.bool z0)) := by rw [hrep]; exact yget hA hi0 hz0
  obtain ⟨N1, hN1⟩ : ∃ N1, N1 = A.set (A.rep (A.tn 20736) (.v (.bool false))) (A.tn 0) (.v (.bool true)) := ⟨_, rfl⟩
  have hp0 : placeS (([0, 0, 0, 0], 0) : Ste Int) = 0 := rfl
  have hV1 : MarkV N1 fun s => s ∈ S0 0 := by
    have h := hV0.set (s := ([0, 0, 0, 0], 0)) lOk0 (Int.le_refl _) (by decide)
    rw [hp0] at h
    rw [hN1, hrep, yset hA hi0 rfl]
    refine h.congr fun s => ?_
    rw [hS0]
    simp only [preS_0, List.mem_singleton, false_or]
  obtain ⟨kd0, qi, qb, qbs⟩ := q
  unfold askD at hmove ⊢
  unfold mvA at hmove
  dsimp only at hqb hQB hmove ⊢
  refine callA_start tokT hA Try.func124 rfl rfl rfl rfl rfl fun S hS => ?_
  cbv
  refine ⟨hnn, hrm, iZ, ⟨_, gZ, ?_⟩⟩
  cbv
  refine at_code hS ?_
  refine wpa_loopG (α := Int × Nat × List D × Nat × List D) (fun z => { env := [(2, .b 0 0), (3, .b 1 0), (5, .o 2 1 20736), (6, .o 3 1 z.2.2.2.1), (7, I z.1)], H := [.box (.agg [I j.ins, .sl 1 FL, .sl 5 ML]), .box (.agg [I kd0, I qi, I qb, .sl 1 QB]), .els 1 z.2.2.1, .els 1 z.2.2.2.2], nt := 58, dfs := [] })
    (fun z => j.moves.length - z.2.1) (fun z => z.2.1 ≤ j.moves.length ∧ IsI z.1 z.2.1 ∧ MarkV z.2.2.1 (fun s => s ∈ S0 z.2.1) ∧ z.2.2.2.1 = comeN j z.2.1 ∧ z.2.2.2.2 = (binsOf (j.moves.take z.2.1)).map I) (0, 0, N1, 0, []) ⟨Nat.zero_le _, ⟨rfl⟩, hV1, (comeN_0 j).symm, rfl⟩ ?_ ?_
  · refine gs_elsE 2 rfl hN1.symm ?_
    refine gs_virt 6 1 rfl ?_
    exact gs_to [0, 1, 2, 3] ⟨by decide, pre0, ⟨rfl, rfl, rfl, rfl, trivial⟩, ⟨rfl, rfl, congrArg (fun k => some (D.o 2 1 k)) htn, rfl, rfl, trivial⟩, rfl, rfl⟩
  rintro ⟨i, k, NOW, nb, BL⟩ ⟨u1, u2, u3, u4, u5⟩
  dsimp only at u1 u2 u3 u4 u5
  have hNl : NOW.length = 20736 := u3.len
  have hBl : BL.length = nb := by rw [u5, u4, List.length_map]; rfl
  have hcl := comeN_le j k
  have hnb6 : nb ≤ 1000000 := by omega
  have hyes : A.cmp .lss i (A.oi (A.len ML)) = true → k < j.moves.length := fun c => yltL hA hMl u2 c
  have hno : A.cmp .lss i (A.oi (A.len ML)) = false → k = j.moves.length := fun c => by have := ynltL hA hMl u2 c; omega
  refine wp_go tokT hA hS ?_
  cbv
  refine bm (fun c => ?_) (fun c => ?_)
  · have hk : k < j.moves.length := hyes c
    obtain ⟨m, hmk⟩ : ∃ m, j.moves[k]? = some m := ⟨_, List.getElem?_eq_getElem hk⟩
    have hmv := hmove k m hmk BL u5 nb u4
    have hcs := comeN_succ hmk
    have hbt := binsOf_take hmk
    obtain ⟨St, hSt⟩ : ∃ St : Ste Int → List (Ste Int), St = stepS j (askTk ⟨kd0, qi, qb, qbs⟩) (binsOf j.moves) m (comeN j k) := ⟨_, rfl⟩
    have hS1 : ∀ s', s' ∈ S0 (k + 1) ↔ ∃ s, s ∈ S0 k ∧ s' ∈ St s := fun s' => by rw [hS0, hSt]; simp only; rw [preS_succ hmk, List.mem_flatMap]
    rw [← hSt] at hmv
    obtain ⟨kd, bn, it, lo, hi⟩ := m
    dsimp only at hmv hcs hbt
    have gM := yget hA u2 (show ML[k]? = some (.agg [I kd, I bn, I it, I lo, I hi]) by rw [hM, List.getElem?_map, hmk]; rfl)
    have iM := yinbL hA hMl u2 hk
    have hf1 := yfit1 hA u2 (by omega)
    have hu2 := ysucc hA u2
    have hms : j.moves.length - (k + 1) < j.moves.length - k := by omega
    have hSk := hSok k
    cbv
    refine ⟨iM, ⟨_, gM, ?_⟩⟩
    cbv
    refine ⟨hnn, hrm, ?_⟩
    refine at_code hS ?_
    refine wpa_loopG (α := Int × Nat × List D) (fun z => { env := [(2, .b 0 0), (3, .b 1 0), (5, .o 2 1 20736), (6, .o 3 1 nb), (7, I i), (8, .b 4 0), (9, .o 5 1 20736), (10, I z.1)], H := [.box (.agg [I j.ins, .sl 1 FL, .sl 5 ML]), .box (.agg [I kd0, I qi, I qb, .sl 1 QB]), .els 1 NOW, .els 1 BL, .box (.agg [I kd, I bn, I it, I lo, I hi]), .els 1 z.2.2], nt := 58, dfs := [] })
      (fun z => 20736 - z.2.1) (fun z => z.2.1 ≤ 20736 ∧ IsI z.1 z.2.1 ∧ MarkV z.2.2 (fun s' => ∃ s, before (S0 k) z.2.1 s ∧ s' ∈ St s)) (0, 0, N0) ⟨Nat.zero_le _, ⟨rfl⟩, hV0.congr fun s => ⟨fun h => h.elim, fun ⟨s, h, _⟩ => absurd h.2 (Nat.not_lt_zero _)⟩⟩ ?_ ?_
    · refine gs_elsE 5 rfl hrep ?_
      exact gs_to [0, 1, 2, 3, 4, 5] ⟨by decide, pre0, ⟨rfl, rfl, rfl, rfl, rfl, rfl, trivial⟩, ⟨rfl, rfl, rfl, rfl, rfl, rfl, congrArg (fun k => some (D.o 5 1 k)) htn, rfl, trivial⟩, rfl, rfl⟩
    rintro ⟨nI, n, NX⟩ ⟨v1, v2, v3⟩
    dsimp only at v1 v2 v3
    have hyes2 : A.cmp .lss nI (A.oi 20736) = true → n < 20736 := fun c => by have := xlt hA c; rw [xoi hA] at this; have := v2.eq; omega
    have hno2 : A.cmp .lss nI (A.oi 20736) = false → n = 20736 := fun c => by have := xnlt hA c; rw [xoi hA] at this; have := v2.eq; omega
    refine wp_go tokT hA hS ?_
    cbv
    refine bm (fun c2 => ?_) (fun c2 => ?_)
    · have hn : n < 20736 := hyes2 c2
      obtain ⟨b, hb1, hb2⟩ := u3.is hn
      have gN := yget hA v2 hb1
      have iN : A.inb nI 20736 := yinb hA v2 hn
      have hfn := yfit1 hA v2 (by omega)
      have hv2 := ysucc hA v2
      have hms2 : 20736 - (n + 1) < 20736 - n := by omega
      have hn1 : n + 1 ≤ 20736 := hn
      have hbn := before_next hSk n
      have hqu : IsI (A.quo nI 1296) (n / 1296) := xquo hA v2 (show 0 < 1296 by decide)
      have hre : IsI (A.rem nI 1296) (n % 1296) := xrem hA v2 (show 0 < 1296 by decide)
      have hnz : A.nz 1296 := by subst hA; show (1296 : Int) ≠ 0; decide
      have hfq : A.fits .i64 (A.quo nI 1296) := xfitE hA hqu.eq (by omega)
      cbv
      refine ⟨iN, ⟨_, gN, ?_⟩⟩
      cbv
      cases b with
      | true =>
        have hin : stateS n ∈ S0 k := hb2.1 rfl
        have hin2 : stateS n ∈ preS j (askTk ⟨kd0, qi, qb, qbs⟩) 0 k := by rw [hS0] at hin; exact hin
        have hs2 : (stateS n).2 = A.quo nI 1296 := hqu.eq.symm
        have hmv2 : ∀ LL, LL = (unpackL (n % 1296)).map I → ∀ Q, (∀ d NX', MarkV NX' (fun s' => ∃ s, before (S0 k) (n + 1) s ∧ s' ∈ St s) → Q (RA.ret d) [.els 1 BL, .els 1 NX']) → CallA Try.prog 132 [.agg [I j.ins, .sl 1 FL, .sl 5 ML], .agg [I kd0, I qi, I qb, .sl 1 QB], .o 0 1 nb, .agg [I kd, I bn, I it, I lo, I hi], I (A.quo nI 1296), .sl 1 LL, .o 1 1 20736] [.els 1 BL, .els 1 NX] Q := fun LL hLL Q h => by
          rw [← hs2]
          refine hmv (stateS n) hin2 LL hLL NX _ v3 Q fun d NX' hd => h d NX' (hd.congr fun s' => ?_)
          constructor
          · rintro (⟨s, h1, h2⟩ | h1)
            · exact ⟨s, (hbn s).2 (.inl h1), h2⟩
            · exact ⟨_, (hbn _).2 (.inr ⟨hin, rfl⟩), h1⟩
          · rintro ⟨s, h1, h2⟩
            rcases (hbn s).1 h1 with h1 | ⟨h1, rfl⟩
            · exact .inl ⟨s, h1, h2⟩
            · exact .inr h2
        cbv
        refine draw_go tokT hA hS [0, 1, 2, 3, 4, 5, 6, 7, 9, 8, 10] rfl rfl fun Dk hD => ?_
        cbv
        refine ⟨hnz, hfq, hnz, ?_⟩
        refine draw_call hA hD [I (A.rem nI 1296)] [] [] rfl rfl rfl rfl rfl rfl rfl rfl rfl rfl rfl (by decide) trivial (rUnpacked (A.rem nI 1296) (n % 1296) hre (Nat.mod_lt _ (by decide)) _ fun LL hLL => ⟨by cbv; repeat' (first | exact trivial | exact rfl | refine ⟨?_, ?_⟩), draw_on tokT hA hD ?_⟩)
        cbv
        refine draw_call hA hD [.agg [I j.ins, .sl 1 FL, .sl 5 ML], .agg [I kd0, I qi, I qb, .sl 1 QB], .o 0 1 nb, .agg [I kd, I bn, I it, I lo, I hi], I (A.quo nI 1296), .sl 1 LL, .o 1 1 20736] [3, 5] [.els 1 BL, .els 1 NX] rfl rfl rfl rfl rfl rfl rfl rfl rfl rfl rfl (by decide) ⟨rfl, rfl, trivial⟩ (hmv2 LL hLL _ fun d NX' hd => ⟨by cbv; repeat' (first | exact trivial | exact rfl | refine ⟨?_, ?_⟩), draw_on tokT hA hD ?_⟩)
        cbv
        refine ⟨hfn, ?_⟩
        refine gs_loop (A.add nI 1, n + 1, NX') [0, 1, 2, 3, 4, 5] ⟨hn1, hv2, hd⟩ hms2 ?_
        exact ⟨by decide, pre0, ⟨rfl, rfl, rfl, rfl, rfl, rfl, trivial⟩, ⟨rfl, rfl, rfl, rfl, rfl, rfl, rfl, rfl, trivial⟩, rfl, rfl⟩
      | false =>
        have hz : MarkV NX (fun s' => ∃ s, before (S0 k) (n + 1) s ∧ s' ∈ St s) := v3.congr fun s' => by
          refine exists_congr fun s => and_congr_left fun _ => ?_
          rw [hbn s]
          exact ⟨.inl, fun h => h.elim id fun g => Bool.noConfusion (hb2.2 g.1)⟩
        cbv
        refine ⟨hfn, ?_⟩
        refine gs_loop (A.add nI 1, n + 1, NX) [0, 1, 2, 3, 4, 5] ⟨hn1, hv2, hz⟩ hms2 ?_
        exact ⟨by decide, pre0, ⟨rfl, rfl, rfl, rfl, rfl, rfl, trivial⟩, ⟨rfl, rfl, rfl, rfl, rfl, rfl, rfl, rfl, trivial⟩, rfl, rfl⟩
    · have hn := hno2 c2
      have hz : MarkV NX (fun s' => s' ∈ S0 (k + 1)) := v3.congr fun s' => by
        rw [hS1 s', hn]
        exact exists_congr fun s => and_congr_left fun _ => before_all hSk s
      have hk1 : k + 1 ≤ j.moves.length := hk
      cbv
      refine gs_done ?_
      cbv
      refine bm (fun c3 => ?_) (fun c3 => ?_)
      · have e := xeq hA c3
        rw [if_pos e] at hcs hbt
        have hn2 : A.addN nb 1 = comeN j (k + 1) := by rw [xaddN hA, hcs, u4]
        have hB2 : A.app BL [I bn] = (binsOf (j.moves.take (k + 1))).map I := by rw [xapp hA, hbt, u5, List.map_append]; rfl
        cbv
        refine ⟨yeqLen hA hBl, yeqLen hA rfl, yroom1 hA hnb6 (by decide), hf1, ?_⟩
        refine gs_loop (A.add i 1, k + 1, NX, A.addN nb 1, A.app BL [I bn]) [0, 1, 5, 7] ⟨hk1, hu2, hz, hn2, hB2⟩ hms ?_
        exact ⟨by decide, pre0, ⟨rfl, rfl, rfl, rfl, trivial⟩, ⟨rfl, rfl, rfl, rfl, rfl, trivial⟩, rfl, rfl⟩
      · have e := xneq hA c3
        rw [if_neg e] at hcs hbt
        have hn2 : nb = comeN j (k + 1) := by rw [hcs, u4, Nat.add_zero]
        have hB2 : BL = (binsOf (j.moves.take (k + 1))).map I := by rw [hbt, u5]
        cbv
        refine ⟨hf1, ?_⟩
        refine gs_loop (A.add i 1, k + 1, NX, nb, BL) [0, 1, 5, 3] ⟨hk1, hu2, hz, hn2, hB2⟩ hms ?_
        exact ⟨by decide, pre0, ⟨rfl, rfl, rfl, rfl, trivial⟩, ⟨rfl, rfl, rfl, rfl, rfl, trivial⟩, rfl, rfl⟩
  · have hk := hno c
    have hz := hq NOW (u3.congr fun s => by rw [hS0]; simp only; rw [preS_all (by omega)])
    cbv
    refine gs_done ?_
    cbv
    refine gh_frz [2] ?_
    cbv
    exact ⟨by cases NOW <;> exact hNl.symm, gh_view [] (by decide) pre0 (H' := []) (d' := .sl 1 NOW) trivial rfl (gh_done hz)⟩
end Go.Proofs.Ytecfpfhkicapeaa

namespace Go.Proofs.Ytecfpfhkicapeaa
open Go Go.Abs Go.Proofs Go.Batch
structure FndV (OL : List D) (T : Nat → Prop) : Prop where
  ex : ∃ L : List Bool, OL = L.map bolD ∧ L.length = 16 ∧ ∀ m, m < 16 → (L[m]? = some true ↔ T m)
theorem FndV.len {OL T} (h : FndV OL T) : OL.length = 16 := by
  obtain ⟨L, rfl, h2, -⟩ := h.ex
  rw [List.length_map, h2]
theorem FndV.is {OL T} (h : FndV OL T) {m : Nat} (hm : m < 16) : ∃ b, OL[m]? = some (.v (.bool b)) ∧ (b = true ↔ T m) := by
  obtain ⟨L, rfl, h2, h3⟩ := h.ex
  refine ⟨L[m], ?_, ?_⟩
  · rw [List.getElem?_map, List.getElem?_eq_getElem (by omega)]; rfl
  · rw [← h3 m hm, List.getElem?_eq_getElem (by omega)]
    exact ⟨fun h => by rw [h], fun h => Option.some.inj h⟩
theorem FndV.congr {OL} {T U : Nat → Prop} (h : FndV OL T) (e : ∀ x, x < 16 → (T x ↔ U x)) : FndV OL U := by
  obtain ⟨L, hL, h2, h3⟩ := h.ex
  exact ⟨L, hL, h2, fun m hm => (h3 m hm).trans (e m hm)⟩
theorem FndV.set {OL T} (h : FndV OL T) {m : Nat} (b : Bool) : FndV (OL.set m (.v (.bool b))) fun x => if x = m then b = true else T x := by
  obtain ⟨L, rfl, h2, h3⟩ := h.ex
  refine ⟨L.set m b, by rw [List.map_set]; rfl, by rw [List.length_set]; exact h2, fun x hx => ?_⟩
  rw [List.getElem?_set]
  by_cases e : m = x
  · subst e
    rw [if_pos rfl, if_pos rfl, if_pos (by omega)]
    exact ⟨fun h => Option.some.inj h, fun h => by rw [h]⟩
  · rw [if_neg e, if_neg fun g => e g.symm]
    exact h3 x hx
theorem fnd_new : FndV ((List.replicate 16 false).map bolD) fun _ => False := ⟨_, rfl, List.length_replicate, fun m hm => by
  rw [List.getElem?_replicate, if_pos hm]; simp⟩
theorem fnd_rep {A : Ar} (hA : A = ar) {OL : List D} (h : OL = (List.replicate 16 false).map bolD) : A.rep (A.tn 16) (.v (.bool false)) = OL := by
  subst hA
  rw [h, List.map_replicate]; rfl
def fndTo (S : List (Ste Int)) (n m : Nat) : Prop := ∃ i, i < n ∧ i / 1296 = m ∧ stateS i ∈ S
theorem fndTo_0 (S : List (Ste Int)) (m : Nat) : ¬ fndTo S 0 m := fun ⟨_, h, _⟩ => absurd h (Nat.not_lt_zero _)
theorem fndTo_succ (S : List (Ste Int)) (n m : Nat) : fndTo S (n + 1) m ↔ fndTo S n m ∨ n / 1296 = m ∧ stateS n ∈ S := by
  constructor
  · rintro ⟨i, h1, h2, h3⟩
    by_cases e : i = n
    · subst e; exact .inr ⟨h2, h3⟩
    · exact .inl ⟨i, by omega, h2, h3⟩
  · rintro (⟨i, h1, h2, h3⟩ | ⟨h2, h3⟩)
    · exact ⟨i, by omega, h2, h3⟩
    · exact ⟨n, by omega, h2, h3⟩
theorem fndTo_all {S : List (Ste Int)} (hs : ∀ s ∈ S, LOk s.1 ∧ 0 ≤ s.2 ∧ s.2 ≤ 15) (m : Nat) : fndTo S 20736 m ↔ ∃ s ∈ S, s.2 = (m : Int) := by
  constructor
  · rintro ⟨i, -, h2, h3⟩
    exact ⟨_, h3, by unfold stateS; simp only; rw [h2]⟩
  · rintro ⟨s, h1, h2⟩
    obtain ⟨h3, h4, h5⟩ := hs s h1
    refine ⟨placeS s, place_lt h3 h4 h5, ?_, by rw [state_place h3 h4]; exact h1⟩
    have hlt := packL_lt h3
    unfold placeS
    rw [h2]
    omega
set_option maxRecDepth 40000 in
set_option maxHeartbeats 16000000 in
theorem rFound (j : Jn) (hj : JOk j) (q : Go.Batch.Ask) (hqb : q.batches.length ≤ 1000000) (FL ML QB : List D) (hF : FL = j.first.map bolD) (hM : ML = j.moves.map mvD) (hQB : QB = q.batches.map I) (Q) (hq : ∀ OL, FndV OL (fun m => ∃ s ∈ endsS j (askTk q) 0, s.2 = (m : Int)) → Q (RA.ret (.sl 1 OL)) []) :
    CallA Try.prog 100 [.agg [I j.ins, .sl 1 FL, .sl 5 ML], askD q QB] [] Q := by
  obtain ⟨A, hA⟩ : ∃ A, A = ar := ⟨_, rfl⟩
  have htn : A.tn 16 = 16 := by subst hA; rfl
  have hnn : A.nneg 16 := by subst hA; show (0 : Int) ≤ 16; decide
  have hrm : A.room (A.tn 16) 1 := by rw [htn]; subst hA; exact ⟨by show 16 * 1 ≤ 140737488355328; omega, by show 16 ≤ 4611686018427387904; omega⟩
  obtain ⟨O0, hO0⟩ : ∃ O0, O0 = (List.replicate 16 false).map bolD := ⟨_, rfl⟩
  have hV0 : FndV O0 fun _ => False := by rw [hO0]; exact fnd_new
  have hrep := fnd_rep hA hO0
  obtain ⟨S0, hS0⟩ : ∃ S0 : List (Ste Int), S0 = endsS j (askTk q) 0 := ⟨_, rfl⟩
  have hSok : ∀ s ∈ S0, LOk s.1 ∧ 0 ≤ s.2 ∧ s.2 ≤ 15 := fun s h => by
    rw [hS0, ← preS_all (k := j.moves.length) (Nat.le_refl _)] at h
    have := pre_ok hj q _ s h
    exact ⟨this.l, this.n0, this.n15⟩
  have hfol := fun Q h => rFollow j hj q hqb FL ML QB hF hM hQB Q h
  rw [← hS0] at hq hfol
  obtain ⟨kd0, qi, qb, qbs⟩ := q
  unfold askD at hfol ⊢
  dsimp only at hqb hQB hfol ⊢
  refine callA_start tokT hA Try.func100 rfl rfl rfl rfl rfl fun S hS => ?_
  cbv
  refine ⟨hnn, hrm, ?_⟩
  refine ops_call hS [.agg [I j.ins, .sl 1 FL, .sl 5 ML], .agg [I kd0, I qi, I qb, .sl 1 QB]] [] [] rfl rfl rfl rfl rfl rfl rfl rfl (by decide) trivial (hfol _ fun NX hNX => ?_)
  have hNl : NX.length = 20736 := hNX.len
  refine ops_go tokT hA hS ?_
  cbv
  refine at_code hS ?_
  refine wpa_loopG (α := Int × Nat × List D) (fun z => { env := [(5, .o 2 1 16), (6, .sl 1 NX), (7, I z.1)], H := [.box (.agg [I j.ins, .sl 1 FL, .sl 5 ML]), .box (.agg [I kd0, I qi, I qb, .sl 1 QB]), .els 1 z.2.2], nt := 34, dfs := [] })
    (fun z => 20736 - z.2.1) (fun z => z.2.1 ≤ 20736 ∧ IsI z.1 z.2.1 ∧ FndV z.2.2 (fndTo S0 z.2.1)) (0, 0, O0) ⟨Nat.zero_le _, ⟨rfl⟩, hV0.congr fun m _ => ⟨fun h => h.elim, fun h => absurd h (fndTo_0 S0 m)⟩⟩ ?_ ?_
  · refine gs_elsE 2 rfl hrep ?_
    exact gs_to [0, 1, 2] ⟨by decide, pre0, ⟨rfl, rfl, rfl, trivial⟩, ⟨congrArg (fun k => some (D.o 2 1 k)) htn, rfl, rfl, trivial⟩, rfl, rfl⟩
  rintro ⟨i, n, OL⟩ ⟨u1, u2, u3⟩
  dsimp only at u1 u2 u3
  have hyes : A.cmp .lss i (A.oi (A.len NX)) = true → n < 20736 := fun c => yltL hA hNl u2 c
  have hno : A.cmp .lss i (A.oi (A.len NX)) = false → n = 20736 := fun c => by have := ynltL hA hNl u2 c; omega
  refine wp_go tokT hA hS ?_
  cbv
  refine bm (fun c => ?_) (fun c => ?_)
  · have hn : n < 20736 := hyes c
    obtain ⟨b, hb1, hb2⟩ := hNX.is hn
    have hm : n / 1296 < 16 := by omega
    obtain ⟨o, ho1, ho2⟩ := u3.is hm
    have hqu : IsI (A.quo i 1296) (n / 1296) := xquo hA u2 (show 0 < 1296 by decide)
    have hnz : A.nz 1296 := by subst hA; show (1296 : Int) ≠ 0; decide
    have hfq : A.fits .i64 (A.quo i 1296) := xfitE hA hqu.eq (by omega)
    have gO := yget hA hqu ho1
    have iO : A.inb (A.quo i 1296) 16 := yinb hA hqu hm
    have gN := yget hA u2 hb1
    have iN := yinbL hA hNl u2 hn
    have hf1 := yfit1 hA u2 (by omega)
    have hu2 := ysucc hA u2
    have hms : 20736 - (n + 1) < 20736 - n := by omega
    have hn1 : n + 1 ≤ 20736 := hn
    have hset : ∀ x : Bool, A.set OL (A.tn (A.quo i 1296)) (.v (.bool x)) = OL.set (n / 1296) (.v (.bool x)) := fun x => yset hA hqu rfl
    have hz : ∀ x : Bool, x = (o || b) → FndV (A.set OL (A.tn (A.quo i 1296)) (.v (.bool x))) (fndTo S0 (n + 1)) := fun x e => by
      rw [hset]
      refine (u3.set x).congr fun m hm => ?_
      rw [fndTo_succ]
      by_cases em : m = n / 1296
      · rw [if_pos em, e, Bool.or_eq_true, ho2, hb2, em]
        exact ⟨fun h => h.elim .inl fun h => .inr ⟨rfl, h⟩, fun h => h.elim .inl fun h => .inr h.2⟩
      · rw [if_neg em]
        exact ⟨.inl, fun h => h.elim id fun g => absurd g.1.symm em⟩
    cases o with
    | true =>
      have hz1 := hz true rfl
      cbv
      refine ⟨hnz, hfq, hnz, hfq, iO, ⟨_, gO, ?_⟩⟩
      cbv
      refine ⟨iO, ⟨_, gO, ?_⟩⟩
      cbv
      refine ⟨hf1, ?_⟩
      refine gs_loop (A.add i 1, n + 1, A.set OL (A.tn (A.quo i 1296)) (.v (.bool true))) [0, 1, 2] ⟨hn1, hu2, hz1⟩ hms ?_
      exact ⟨by decide, pre0, ⟨rfl, rfl, rfl, trivial⟩, ⟨rfl, rfl, rfl, trivial⟩, rfl, rfl⟩
    | false =>
      have hz1 := hz b rfl
      cbv
      refine ⟨hnz, hfq, hnz, hfq, iO, ⟨_, gO, ?_⟩⟩
      cbv
      refine ⟨iN, ⟨_, gN, ?_⟩⟩
      cbv
      refine ⟨iO, ⟨_, gO, ?_⟩⟩
      cbv
      refine ⟨hf1, ?_⟩
      refine gs_loop (A.add i 1, n + 1, A.set OL (A.tn (A.quo i 1296)) (.v (.bool b))) [0, 1, 2] ⟨hn1, hu2, hz1⟩ hms ?_
      exact ⟨by decide, pre0, ⟨rfl, rfl, rfl, trivial⟩, ⟨rfl, rfl, rfl, trivial⟩, rfl, rfl⟩
  · have hn := hno c
    have hOl : OL.length = 16 := u3.len
    have hz := hq OL (u3.congr fun m _ => by rw [hn]; exact fndTo_all hSok m)
    cbv
    refine gs_done ?_
    cbv
    refine gh_frz [2] ?_
    cbv
    exact ⟨by cases OL <;> exact hOl.symm, gh_view [] (by decide) pre0 (H' := []) (d' := .sl 1 OL) trivial rfl (gh_done hz)⟩
theorem ask_none {q : Go.Batch.Ask} (hq : q.kind = 4) : askTk q = fun x _ _ _ => x := by
  funext x i b n
  unfold askTk
  rw [if_neg (by omega), if_neg (by omega), if_neg (by omega)]
theorem fold_keep (l : List (Int × Nat × Int)) (x : Int) : foldTk (fun x _ _ _ => x) x l = x := by
  induction l with
  | nil => rfl
  | cons p l ih => exact ih
theorem ends_ask {j : Jn} {q : Go.Batch.Ask} (hq : q.kind = 4) : endsS j (askTk q) 0 = endsS j tkNone 0 := by
  rw [endsS_all (askTk q), endsS_all tkNone]
  refine List.map_congr_left fun s _ => ?_
  congr 1
  rw [ask_none hq, fold_keep]
  have : ∀ (l : List (Int × Nat × Int)) , foldTk tkNone 0 l = 0 := fun l => by
    induction l with
    | nil => rfl
    | cons p l ih => exact ih
  exact (this _).symm
theorem ends_none2 {j : Jn} : ∀ s ∈ endsS j tkNone 0, s.2 = 0 := fun s h => by
  rw [endsS_all tkNone] at h
  obtain ⟨x, -, rfl⟩ := List.mem_map.1 h
  have : ∀ (l : List (Int × Nat × Int)) , foldTk tkNone 0 l = 0 := fun l => by
    induction l with
    | nil => rfl
    | cons p l ih => exact ih
  exact this _
set_option maxRecDepth 20000 in
set_option maxHeartbeats 4000000 in
theorem rStandsJ (j : Jn) (hj : JOk j) (FL ML : List D) (hF : FL = j.first.map bolD) (hM : ML = j.moves.map mvD) (b : Bool) (hb : b = standsJ j) (Q) (hq : Q (RA.ret (.v (.bool b))) []) :
    CallA Try.prog 84 [.agg [I j.ins, .sl 1 FL, .sl 5 ML]] [] Q := by
  obtain ⟨A, hA⟩ : ∃ A, A = ar := ⟨_, rfl⟩
  refine callA_start tokT hA Try.func84 rfl rfl rfl rfl rfl fun S hS => ?_
  cbv
  refine ops_call hS [.agg [I j.ins, .sl 1 FL, .sl 5 ML], .agg [I 4, I 0, I 0, .v (.slice none 0 0)]] [] [] rfl rfl rfl rfl rfl rfl rfl rfl (by decide) trivial (callA_weak (as' := [.agg [I j.ins, .sl 1 FL, .sl 5 ML], askD ⟨4, 0, 0, []⟩ []]) ⟨.rfl, WkD.agg ⟨.rfl, .rfl, .rfl, WkD.nil, trivial⟩, trivial⟩ (rFound j hj ⟨4, 0, 0, []⟩ (by decide) FL ML [] hF hM rfl _ fun OL hOL => ?_))
  obtain ⟨o, ho1, ho2⟩ := hOL.is (m := 0) (by decide)
  have hob : o = b := by
    rw [hb]
    refine Bool.eq_iff_iff.2 (ho2.trans ?_)
    rw [ends_ask rfl, standsJ_iff j tkNone]
    constructor
    · rintro ⟨s, h, -⟩ e
      rw [e] at h
      exact absurd h List.not_mem_nil
    · intro h
      obtain ⟨s, l, e⟩ := List.exists_cons_of_ne_nil h
      have hs : s ∈ endsS j tkNone 0 := by rw [e]; exact List.mem_cons_self
      exact ⟨s, hs, ends_none2 s hs⟩
  rw [hob] at ho1
  have hOl : OL.length = 16 := hOL.len
  have hi0 : IsI (0 : Int) 0 := ⟨rfl⟩
  have gO := yget hA hi0 ho1
  have iO := yinbL hA hOl hi0 (by decide)
  refine ops_go tokT hA hS ?_
  cbv
  refine ⟨iO, ⟨_, gO, ?_⟩⟩
  cbv
  exact gh_view [] (by decide) pre0 (H' := []) (d' := .v (.bool b)) trivial rfl (gh_done hq)
end Go.Proofs.Ytecfpfhkicapeaa

namespace Go.Proofs.Ytecfpfhkicapeaa
open Go Go.Abs Go.Proofs Go.Batch
theorem kind_cmp {A : Ar} (hA : A = ar) (x y : Int) : A.cmp .eql x y = decide (x = y) ∧ A.cmp .neq x y = !decide (x = y) := by
  subst hA; refine ⟨?_, ?_⟩
  · refine Bool.eq_iff_iff.2 ?_; simp [ar, cmpI]
  · refine Bool.eq_iff_iff.2 ?_; simp [ar, cmpI]
set_option maxRecDepth 20000 in
set_option maxHeartbeats 4000000 in
theorem rCheckMove (j : Jn) (hi : 1 ≤ j.ins ∧ j.ins ≤ 4) (hf : j.first.length ≤ 1152921504606846976) (m : Mv) (FL ML : List D) (hF : FL = j.first.map bolD) (c : Int) (n : Int) (hn : n = if checkMv j m ≠ 0 then checkMv j m else if m.kind = 1 ∧ c = 4 then 6 else 0) (Q) (hq : Q (RA.ret (I n)) []) :
    CallA Try.prog 106 [.agg [I j.ins, .sl 1 FL, .sl 5 ML], .agg [I m.kind, I m.bin, I m.inst, I m.lo, I m.hi], I c] [] Q := by
  obtain ⟨A, hA⟩ : ∃ A, A = ar := ⟨_, rfl⟩
  have hnt : A.bnot true = false := by subst hA; rfl
  have hnf : A.bnot false = true := by subst hA; rfl
  have hFl : FL.length = j.first.length := by rw [hF]; simp
  obtain ⟨kd, bn, it, lo, hi'⟩ := m
  obtain ⟨b1, hb1⟩ : ∃ x, x = decide (1 ≤ kd ∧ kd ≤ 3) := ⟨_, rfl⟩
  obtain ⟨b2, hb2⟩ : ∃ x, x = decide (0 ≤ bn ∧ bn ≤ (j.first.length : Int) - 1) := ⟨_, rfl⟩
  have hb2' : b2 = decide (0 ≤ bn ∧ bn ≤ A.sub (A.oi (A.len FL)) 1) := by rw [xsub hA, yoiL hA hFl]; exact hb2
  obtain ⟨b3, hb3⟩ : ∃ x, x = decide (-1 ≤ it ∧ it ≤ j.ins - 1) := ⟨_, rfl⟩
  have hb3' : b3 = decide (-1 ≤ it ∧ it ≤ A.sub j.ins 1) := by rw [xsub hA]; exact hb3
  obtain ⟨b4, hb4⟩ : ∃ x, x = decide (0 ≤ lo ∧ lo ≤ 5) := ⟨_, rfl⟩
  obtain ⟨b5, hb5⟩ : ∃ x, x = decide (0 ≤ hi' ∧ hi' ≤ 5) := ⟨_, rfl⟩
  have f1 : A.fits .i64 (A.sub (A.oi (A.len FL)) 1) := xfitE hA (by rw [xsub hA, yoiL hA hFl]) (by omega)
  have f2 : A.fits .i64 (A.sub j.ins 1) := xfitE hA (xsub hA j.ins 1) (by omega)
  obtain ⟨v, hv⟩ : ∃ v, v = checkMv j ⟨kd, bn, it, lo, hi'⟩ := ⟨_, rfl⟩
  rw [← hv] at hn
  simp only [checkMv] at hv
  dsimp only at hn
  have v1 : b1 = false → n = 8 := fun h => by
    rw [h] at hb1
    have h1 := of_decide_eq_false hb1.symm
    rw [if_pos h1] at hv; rw [hn, hv, if_pos (by decide)]
  have v2 : b1 = true → b2 = false → n = 3 := fun h h' => by
    rw [h] at hb1; rw [h'] at hb2
    have h1 := of_decide_eq_true hb1.symm
    have h2 := of_decide_eq_false hb2.symm
    rw [if_neg (fun g => g h1), if_pos h2] at hv; rw [hn, hv, if_pos (by decide)]
  have v3 : b1 = true → b2 = true → kd = 2 → b3 = false → n = 3 := fun h h' k h'' => by
    rw [h] at hb1; rw [h'] at hb2; rw [h''] at hb3
    have h1 := of_decide_eq_true hb1.symm
    have h2 := of_decide_eq_true hb2.symm
    have h3 := of_decide_eq_false hb3.symm
    rw [if_neg (fun g => g h1), if_neg (fun g => g h2), if_pos ⟨k, h3⟩] at hv; rw [hn, hv, if_pos (by decide)]
  have v4 : b1 = true → b2 = true → kd ≠ 2 → it ≠ 0 → n = 1 := fun h h' k h'' => by
    rw [h] at hb1; rw [h'] at hb2
    have h1 := of_decide_eq_true hb1.symm
    have h2 := of_decide_eq_true hb2.symm
    rw [if_neg (fun g => g h1), if_neg (fun g => g h2), if_neg (fun g => k g.1), if_pos ⟨k, h''⟩] at hv; rw [hn, hv, if_pos (by decide)]
  have v5 : b1 = true → b2 = true → (kd = 2 ∧ b3 = true ∨ kd ≠ 2 ∧ it = 0) → n = if b4 = false ∨ b5 = false then 1 else if hi' < lo then 5 else if kd = 1 ∧ c = 4 then 6 else 0 := fun h h' k => by
    rw [h] at hb1; rw [h'] at hb2
    have h1 := of_decide_eq_true hb1.symm
    have h2 := of_decide_eq_true hb2.symm
    have e3 : ¬ (kd = 2 ∧ ¬ (-1 ≤ it ∧ it ≤ j.ins - 1)) := fun g => by
      rcases k with k | k
      · rw [k.2] at hb3; exact g.2 (of_decide_eq_true hb3.symm)
      · exact k.1 g.1
    have e4 : ¬ (kd ≠ 2 ∧ it ≠ 0) := fun g => by
      rcases k with k | k
      · exact g.1 k.1
      · exact g.2 k.2
    have e5 : (¬ (0 ≤ lo ∧ lo ≤ 5) ∨ ¬ (0 ≤ hi' ∧ hi' ≤ 5)) ↔ (b4 = false ∨ b5 = false) := by rw [hb4, hb5, decide_eq_false_iff_not, decide_eq_false_iff_not]
    rw [if_neg (fun g => g h1), if_neg (fun g => g h2), if_neg e3, if_neg e4] at hv
    by_cases g : b4 = false ∨ b5 = false
    · rw [if_pos (e5.2 g)] at hv; rw [hn, hv, if_pos g, if_pos (by decide)]
    · rw [if_neg (fun x => g (e5.1 x))] at hv; rw [hn, if_neg g]
      by_cases g' : hi' < lo
      · rw [if_pos g'] at hv; rw [hv, if_pos g', if_pos (by decide)]
      · rw [if_neg g'] at hv; rw [hv, if_neg g', if_neg (fun x => x rfl)]
  clear hn hv
  have kc2 := (kind_cmp hA kd 2)
  have kc1 := (kind_cmp hA kd 1)
  dsimp only
  refine callA_start tokT hA Try.func106 rfl rfl rfl rfl rfl fun S hS => ?_
  cbv
  refine ops_call hS [I kd, I 1, I 3] [] [] rfl rfl rfl rfl rfl rfl rfl rfl (by decide) trivial (rAmong _ _ _ b1 hb1 _ ?_)
  refine ops_go tokT hA hS ?_
  cases b1 with
  | false =>
    rw [v1 rfl] at hq
    cbv
    refine bmT hnf ?_
    cbv
    exact gh_view [] (by decide) pre0 (H' := []) (d' := I 8) trivial rfl (gh_done hq)
  | true =>
  cbv
  refine bmF hnt ?_
  cbv
  refine ⟨f1, ?_⟩
  refine ops_call hS [I bn, I 0, I (A.sub (A.oi (A.len FL)) 1)] [] [] rfl rfl rfl rfl rfl rfl rfl rfl (by decide) trivial (rAmong _ _ _ b2 hb2' _ ?_)
  refine ops_go tokT hA hS ?_
  cases b2 with
  | false =>
    rw [v2 rfl rfl] at hq
    cbv
    refine bmT hnf ?_
    cbv
    exact gh_view [] (by decide) pre0 (H' := []) (d' := I 3) trivial rfl (gh_done hq)
  | true =>
  by_cases k2 : kd = 2
  · have e2 : A.cmp .eql kd 2 = true := by rw [kc2.1, decide_eq_true k2]
    have n2 : A.cmp .neq kd 2 = false := by rw [kc2.2, decide_eq_true k2]; rfl
    have e1 : A.cmp .eql kd 1 = false := by rw [kc1.1, decide_eq_false (by omega)]
    cbv
    refine bmF hnt ?_
    cbv
    refine bmT e2 ?_
    cbv
    refine ⟨f2, ?_⟩
    refine ops_callG hS rfl rfl rfl rfl rfl rfl rfl rfl (fun _ => ⟨_, _, [I it, I (-1), I (A.sub j.ins 1)], [], [], rfl, rfl, rfl, by decide, trivial, rAmong _ _ _ b3 hb3' _ ?_⟩) (fun e => absurd rfl e)
    refine ops_go tokT hA hS ?_
    cases b3 with
    | false =>
      rw [v3 rfl rfl k2 rfl] at hq
      cbv
      refine bmT hnf ?_
      cbv
      exact gh_view [] (by decide) pre0 (H' := []) (d' := I 3) trivial rfl (gh_done hq)
    | true =>
    have hn := v5 rfl rfl (.inl ⟨k2, rfl⟩)
    cbv
    refine bmF hnt ?_
    cbv
    refine bmF n2 ?_
    cbv
    refine ops_callG hS rfl rfl rfl rfl rfl rfl rfl rfl (fun _ => ⟨_, _, [I lo, I 0, I 5], [], [], rfl, rfl, rfl, by decide, trivial, rAmong _ _ _ b4 hb4 _ ?_⟩) (fun e => absurd rfl e)
    refine ops_go tokT hA hS ?_
    cases b4 with
    | false =>
      rw [hn, if_pos (.inl rfl)] at hq
      cbv
      refine bmT hnf ?_
      cbv
      refine ops_callG (f := 0) hS rfl rfl rfl rfl rfl rfl rfl rfl (fun e => Bool.noConfusion e) (fun _ => ?_)
      refine ops_go tokT hA hS ?_
      cbv
      exact gh_view [] (by decide) pre0 (H' := []) (d' := I 1) trivial rfl (gh_done hq)
    | true =>
    cbv
    refine bmF hnt ?_
    cbv
    refine ops_callG hS rfl rfl rfl rfl rfl rfl rfl rfl (fun _ => ⟨_, _, [I hi', I 0, I 5], [], [], rfl, rfl, rfl, by decide, trivial, rAmong _ _ _ b5 hb5 _ ?_⟩) (fun e => absurd rfl e)
    refine ops_go tokT hA hS ?_
    cases b5 with
    | false =>
      rw [hn, if_pos (.inr rfl)] at hq
      cbv
      refine bmT hnf ?_
      cbv
      exact gh_view [] (by decide) pre0 (H' := []) (d' := I 1) trivial rfl (gh_done hq)
    | true =>
    rw [if_neg (fun h => h.elim Bool.noConfusion Bool.noConfusion)] at hn
    cbv
    refine bmF hnt ?_
    cbv
    refine bm (fun c7 => ?_) (fun c7 => ?_)
    · have g7 := xgt hA c7
      rw [hn, if_pos g7] at hq
      cbv
      exact gh_view [] (by decide) pre0 (H' := []) (d' := I 5) trivial rfl (gh_done hq)
    have g7 := xngt hA c7
    rw [if_neg (by omega)] at hn
    rw [if_neg (by omega)] at hn
    rw [hn] at hq
    cbv
    refine bmF e1 ?_
    cbv
    exact gh_view [] (by decide) pre0 (H' := []) (d' := I 0) trivial rfl (gh_done hq)
  · have e2 : A.cmp .eql kd 2 = false := by rw [kc2.1, decide_eq_false k2]
    have n2 : A.cmp .neq kd 2 = true := by rw [kc2.2, decide_eq_false k2]; rfl
    cbv
    refine bmF hnt ?_
    cbv
    refine bmF e2 ?_
    cbv
    refine ops_callG (f := 0) hS rfl rfl rfl rfl rfl rfl rfl rfl (fun e => Bool.noConfusion e) (fun _ => ?_)
    refine ops_go tokT hA hS ?_
    cbv
    refine bmT n2 ?_
    cbv
    by_cases k3 : it = 0
    · have n3 : A.cmp .neq it 0 = false := by rw [(kind_cmp hA it 0).2, decide_eq_true k3]; rfl
      have hn := v5 rfl rfl (.inr ⟨k2, k3⟩)
      refine bmF n3 ?_
      cbv
      refine ops_callG hS rfl rfl rfl rfl rfl rfl rfl rfl (fun _ => ⟨_, _, [I lo, I 0, I 5], [], [], rfl, rfl, rfl, by decide, trivial, rAmong _ _ _ b4 hb4 _ ?_⟩) (fun e => absurd rfl e)
      refine ops_go tokT hA hS ?_
      cases b4 with
      | false =>
        rw [hn, if_pos (.inl rfl)] at hq
        cbv
        refine bmT hnf ?_
        cbv
        refine ops_callG (f := 0) hS rfl rfl rfl rfl rfl rfl rfl rfl (fun e => Bool.noConfusion e) (fun _ => ?_)
        refine ops_go tokT hA hS ?_
        cbv
        exact gh_view [] (by decide) pre0 (H' := []) (d' := I 1) trivial rfl (gh_done hq)
      | true =>
      cbv
      refine bmF hnt ?_
      cbv
      refine ops_callG hS rfl rfl rfl rfl rfl rfl rfl rfl (fun _ => ⟨_, _, [I hi', I 0, I 5], [], [], rfl, rfl, rfl, by decide, trivial, rAmong _ _ _ b5 hb5 _ ?_⟩) (fun e => absurd rfl e)
      refine ops_go tokT hA hS ?_
      cases b5 with
      | false =>
        rw [hn, if_pos (.inr rfl)] at hq
        cbv
        refine bmT hnf ?_
        cbv
        exact gh_view [] (by decide) pre0 (H' := []) (d' := I 1) trivial rfl (gh_done hq)
      | true =>
      rw [if_neg (fun h => h.elim Bool.noConfusion Bool.noConfusion)] at hn
      cbv
      refine bmF hnt ?_
      cbv
      refine bm (fun c7 => ?_) (fun c7 => ?_)
      · have g7 := xgt hA c7
        rw [hn, if_pos g7] at hq
        cbv
        exact gh_view [] (by decide) pre0 (H' := []) (d' := I 5) trivial rfl (gh_done hq)
      have g7 := xngt hA c7
      rw [if_neg (by omega)] at hn
      by_cases k1 : kd = 1
      · have e1 : A.cmp .eql kd 1 = true := by rw [kc1.1, decide_eq_true k1]
        cbv
        refine bmT e1 ?_
        cbv
        refine bm (fun c8 => ?_) (fun c8 => ?_)
        · rw [hn, if_pos ⟨k1, xeq hA c8⟩] at hq
          cbv
          exact gh_view [] (by decide) pre0 (H' := []) (d' := I 6) trivial rfl (gh_done hq)
        · rw [hn, if_neg (fun h => xneq hA c8 h.2)] at hq
          cbv
          exact gh_view [] (by decide) pre0 (H' := []) (d' := I 0) trivial rfl (gh_done hq)
      · have e1 : A.cmp .eql kd 1 = false := by rw [kc1.1, decide_eq_false k1]
        rw [hn, if_neg (fun h => k1 h.1)] at hq
        cbv
        refine bmF e1 ?_
        cbv
        exact gh_view [] (by decide) pre0 (H' := []) (d' := I 0) trivial rfl (gh_done hq)
    · have n3 : A.cmp .neq it 0 = true := by rw [(kind_cmp hA it 0).2, decide_eq_false k3]; rfl
      rw [v4 rfl rfl k2 k3] at hq
      refine bmT n3 ?_
      cbv
      refine ops_callG (f := 0) hS rfl rfl rfl rfl rfl rfl rfl rfl (fun e => Bool.noConfusion e) (fun _ => ?_)
      refine ops_go tokT hA hS ?_
      cbv
      refine ops_callG (f := 0) hS rfl rfl rfl rfl rfl rfl rfl rfl (fun e => Bool.noConfusion e) (fun _ => ?_)
      refine ops_go tokT hA hS ?_
      cbv
      exact gh_view [] (by decide) pre0 (H' := []) (d' := I 1) trivial rfl (gh_done hq)
set_option maxRecDepth 20000 in
set_option maxHeartbeats 4000000 in
theorem rCheck (j : Jn) (hf : j.first.length ≤ 1152921504606846976) (hm : j.moves.length ≤ 1152921504606846976) (FL ML : List D) (hF : FL = j.first.map bolD) (hM : ML = j.moves.map mvD) (n : Int) (hn : n = checkJ j) (Q) (hq : Q (RA.ret (I n)) []) :
    CallA Try.prog 50 [.agg [I j.ins, .sl 1 FL, .sl 5 ML]] [] Q := by
  obtain ⟨A, hA⟩ : ∃ A, A = ar := ⟨_, rfl⟩
  have hnt : A.bnot true = false := by subst hA; rfl
  have hnf : A.bnot false = true := by subst hA; rfl
  have hFl : FL.length = j.first.length := by rw [hF]; simp
  have hMl : ML.length = j.moves.length := by rw [hM]; simp
  obtain ⟨b1, hb1⟩ : ∃ x, x = decide (1 ≤ j.ins ∧ j.ins ≤ 4) := ⟨_, rfl⟩
  unfold checkJ at hn
  refine callA_start tokT hA Try.func50 rfl rfl rfl rfl rfl fun S hS => ?_
  cbv
  refine ops_call hS [I j.ins, I 1, I 4] [] [] rfl rfl rfl rfl rfl rfl rfl rfl (by decide) trivial (rAmong _ _ _ b1 hb1 _ ?_)
  refine ops_go tokT hA hS ?_
  cases b1 with
  | false =>
    have h1 := of_decide_eq_false hb1.symm
    rw [hn, if_pos h1] at hq
    cbv
    refine bmT hnf ?_
    cbv
    exact gh_view [] (by decide) pre0 (H' := []) (d' := I 1) trivial rfl (gh_done hq)
  | true =>
  have hi := of_decide_eq_true hb1.symm
  rw [if_neg (fun h => h hi)] at hn
  cbv
  refine bmF hnt ?_
  cbv
  refine bm (fun c2 => ?_) (fun c2 => ?_)
  · have hz : n = 7 := by rw [hn, if_pos]; have h : (j.first.length : Int) = 0 := yeqL hA hFl c2; omega
    rw [hz] at hq
    cbv
    exact gh_view [] (by decide) pre0 (H' := []) (d' := I 7) trivial rfl (gh_done hq)
  rw [if_neg (by have h : (j.first.length : Int) ≠ 0 := yneqL hA hFl c2; omega)] at hn
  cbv
  refine bm (fun c3 => ?_) (fun c3 => ?_)
  · have hz : n = 6 := by rw [hn, if_pos]; have h : (2 : Int) < (j.first.length : Int) := ygtL hA hFl c3; omega
    rw [hz] at hq
    cbv
    exact gh_view [] (by decide) pre0 (H' := []) (d' := I 6) trivial rfl (gh_done hq)
  have g3 : (j.first.length : Int) ≤ 2 := yngtL hA hFl c3
  cbv
  refine bm (fun c4 => ?_) (fun c4 => ?_)
  · have hz : n = 6 := by rw [hn, if_pos]; have h : (10 : Int) < (j.moves.length : Int) := ygtL hA hMl c4; omega
    rw [hz] at hq
    cbv
    exact gh_view [] (by decide) pre0 (H' := []) (d' := I 6) trivial rfl (gh_done hq)
  have g4 : (j.moves.length : Int) ≤ 10 := yngtL hA hMl c4
  have g3' : (j.first.length : Int) ≤ 2 := g3
  have hn0 : n = checkMs j (j.moves.drop 0) 0 := by rw [hn, if_neg (by omega)]; rfl
  cbv
  refine at_code hS ?_
  refine wpa_loopG (α := Int × Nat × Int × Nat) (fun q => { env := [(1, .b 0 0), (3, I q.2.2.1), (4, I q.1)], H := [.box (.agg [I j.ins, .sl 1 FL, .sl 5 ML])], nt := 51, dfs := [] })
    (fun q => j.moves.length - q.2.1) (fun q => q.2.1 ≤ j.moves.length ∧ IsI q.1 q.2.1 ∧ IsI q.2.2.1 q.2.2.2 ∧ q.2.2.2 ≤ 4 ∧ n = checkMs j (j.moves.drop q.2.1) q.2.2.2) (0, 0, 0, 0) ⟨Nat.zero_le _, ⟨rfl⟩, ⟨rfl⟩, Nat.zero_le _, hn0⟩ ?_ ?_
  · exact gs_to [0] ⟨by decide, pre0, ⟨rfl, trivial⟩, ⟨rfl, rfl, rfl, trivial⟩, rfl, rfl⟩
  rintro ⟨i, k, bi, c⟩ ⟨u1, u2, u3, u4, u5⟩
  dsimp only at u1 u2 u3 u4 u5
  refine wp_go tokT hA hS ?_
  cbv
  refine bm (fun e => ?_) (fun e => ?_)
  · have hk : k < j.moves.length := yltL hA hMl u2 e
    obtain ⟨m, hmk⟩ : ∃ m, j.moves[k]? = some m := ⟨_, List.getElem?_eq_getElem hk⟩
    have hMk : ML[k]? = some (.agg [I m.kind, I m.bin, I m.inst, I m.lo, I m.hi]) := by rw [hM]; simp [hmk, mvD]
    rw [checkMs_drop hmk] at u5
    have hin := yinbL hA hMl u2 hk
    have hg := yget hA u2 hMk
    have hf1 := yfit1 hA u2 (by omega)
    have hu2 := ysucc hA u2
    have hb1f := yfit1 hA u3 (by omega)
    have hu3 := ysucc hA u3
    have hms : j.moves.length - (k + 1) < j.moves.length - k := by omega
    obtain ⟨e1, he1⟩ : ∃ e1, e1 = if checkMv j m ≠ 0 then checkMv j m else if m.kind = 1 ∧ bi = 4 then 6 else 0 := ⟨_, rfl⟩
    have w1 : e1 ≠ 0 → n = e1 := fun h => by
      rw [u5, he1]
      by_cases g : checkMv j m ≠ 0
      · rw [if_pos g, if_pos g]
      · rw [if_neg g, if_neg g]
        rw [he1, if_neg g] at h
        by_cases g2 : m.kind = 1 ∧ bi = 4
        · rw [if_pos g2, if_pos (by rw [if_pos g2.1]; have := u3.eq; omega)]
        · rw [if_neg g2] at h; exact absurd rfl h
    have w0 : e1 = 0 → n = checkMs j (j.moves.drop (k + 1)) (if m.kind = 1 then c + 1 else c) ∧ (m.kind = 1 → c + 1 ≤ 4) := fun h => by
      rw [he1] at h
      have g : ¬ checkMv j m ≠ 0 := fun g => by rw [if_pos g] at h; exact g h
      rw [if_neg g] at h
      have g2 : ¬ (m.kind = 1 ∧ bi = 4) := fun g2 => by rw [if_pos g2] at h; exact absurd h (by decide)
      have e := u3.eq
      have h5 : m.kind = 1 → c + 1 ≤ 4 := fun hk => by
        by_cases g3 : bi = 4
        · exact absurd ⟨hk, g3⟩ g2
        · omega
      refine ⟨?_, h5⟩
      rw [u5, if_neg g, if_neg]
      split
      · rename_i hk1; have := h5 hk1; omega
      · omega
    clear u5
    have hw1 : A.cmp .neq e1 0 = true → n = e1 := fun c => w1 (xne hA c)
    have hw0 : A.cmp .neq e1 0 = false → e1 = 0 := fun c => by have := xnne hA c; exact this
    have hk1 : k + 1 ≤ j.moves.length := hk
    obtain ⟨kd, bn, it, lo, hi'⟩ := m
    dsimp only at hg w0 he1
    have hcm := fun Q h => rCheckMove j hi hf ⟨kd, bn, it, lo, hi'⟩ FL ML hF bi e1 he1 Q h
    dsimp only at hcm
    have hx1 : kd = 1 → n = checkMs j (j.moves.drop (k + 1)) (if kd = 1 then c + 1 else c) → n = checkMs j (j.moves.drop (k + 1)) (c + 1) := fun h g => by rw [if_pos h] at g; exact g
    have hx0 : kd ≠ 1 → n = checkMs j (j.moves.drop (k + 1)) (if kd = 1 then c + 1 else c) → n = checkMs j (j.moves.drop (k + 1)) c := fun h g => by rw [if_neg h] at g; exact g
    cbv
    refine draw_go tokT hA hS [0, 1, 2, 3, 4, 5, 6, 7, 8] rfl rfl fun Dk hD => ?_
    cbv
    refine ⟨hin, ⟨_, hg, ?_⟩⟩
    cbv
    refine draw_call hA hD [.agg [I j.ins, .sl 1 FL, .sl 5 ML], .agg [I kd, I bn, I it, I lo, I hi'], I bi] [] [] rfl rfl rfl rfl rfl rfl rfl rfl rfl rfl rfl (by decide) trivial (hcm _ ⟨by cbv; repeat' (first | exact trivial | exact ⟨_, hg, rfl⟩ | exact Need.mk ⟨_, hg, rfl⟩ | exact rfl | refine ⟨?_, ?_⟩), draw_on tokT hA hD ?_⟩)
    cbv
    refine bm (fun c5 => ?_) (fun c5 => ?_)
    · have hz := hw1 c5
      rw [hz] at hq
      cbv
      refine gs_done ?_
      cbv
      exact gh_view [] (by decide) pre0 (H' := []) (d' := I e1) trivial rfl (gh_done hq)
    obtain ⟨hz, h5⟩ := w0 (hw0 c5)
    cbv
    refine ⟨hin, ⟨_, hg, ?_⟩⟩
    cbv
    refine bm (fun c6 => ?_) (fun c6 => ?_)
    · have e6 := xeq hA c6
      have hz2 := hx1 e6 hz
      have h55 := h5 e6
      cbv
      refine ⟨hb1f, hf1, ?_⟩
      refine gs_loop (A.add i 1, k + 1, A.add bi 1, c + 1) [0] ⟨hk1, hu2, hu3, h55, hz2⟩ hms ?_
      exact ⟨by decide, pre0, ⟨rfl, trivial⟩, ⟨rfl, rfl, rfl, trivial⟩, rfl, rfl⟩
    · have hz2 := hx0 (xneq hA c6) hz
      cbv
      refine ⟨hf1, ?_⟩
      refine gs_loop (A.add i 1, k + 1, bi, c) [0] ⟨hk1, hu2, u3, u4, hz2⟩ hms ?_
      exact ⟨by decide, pre0, ⟨rfl, trivial⟩, ⟨rfl, rfl, rfl, trivial⟩, rfl, rfl⟩
  · have hk : j.moves.length ≤ k := ynltL hA hMl u2 e
    have hz : n = 0 := by rw [u5, List.drop_eq_nil_of_le hk]; rfl
    rw [hz] at hq
    cbv
    refine gs_done ?_
    cbv
    exact gh_view [] (by decide) pre0 (H' := []) (d' := I 0) trivial rfl (gh_done hq)
end Go.Proofs.Ytecfpfhkicapeaa

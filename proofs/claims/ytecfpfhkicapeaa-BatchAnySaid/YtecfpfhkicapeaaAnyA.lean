/- Part AnyA of the proofs about the benches of the accordion maker: see the last text of the claim for what is proved. -/
import Derived.Test.YtecfpfhkicapeaaBatF
import Derived.Test.YtecfpfhkicapeaaBatE
import Derived.Test.YtecfpfhkicapeaaBatG
import Derived.Test.YtecfpfhkicapeaaSaysA
set_option linter.unusedVariables false
set_option linter.unusedSimpArgs false
set_option linter.unnecessarySimpa false
set_option linter.constructorNameAsVariable false

/-! T21 -/
namespace Go.Proofs.Ytecfpfhkicapeaa
open Go Go.Abs Go.Proofs Go.Batch

/-- NewPot, of numbers of any length. -/
theorem newPotL (L : List D) (nums : List Int) (hL : L = nums.map I) (hl : L.length ≤ 9223372036854775807) (Q) (hq : ∀ x, Q (RA.ret (.b 0 0)) [.box (.agg [U x])]) :
    CallA Try.prog 18 [.sl 1 L] [] Q := by
  obtain ⟨A, hA⟩ : ∃ A, A = ar := ⟨_, rfl⟩
  refine callA_start tokT hA Try.func18 rfl rfl rfl rfl rfl fun S hS => ?_
  cbv
  refine at_code hS ?_
  refine wpa_loopV (α := Int × Nat × Int) (fun x => { env := [(0, .sl 1 L), (3, .b 0 0), (4, .v (.int .i64 x.1))], H := [.box (.agg [U x.2.2])], nt := 41, dfs := [] }) (fun x => L.length - x.2.1) (fun x => x.2.1 ≤ L.length ∧ x.1 = x.2.1) (0, 0, 2611923443488327891) ⟨Nat.zero_le _, rfl⟩ [0] ?_ ?_
  · exact ⟨by decide, fun i hi => absurd hi (by simp), ⟨rfl, trivial⟩, ⟨rfl, rfl, rfl, trivial⟩, rfl, rfl⟩
  rintro ⟨i, k, x⟩ ⟨hk, hi⟩
  replace hk : k ≤ L.length := hk
  replace hi : i = (k : Int) := hi
  refine wp_go tokT hA hS ?_
  cbv
  split
  · rename_i hc
    cbv
    replace hi : i = (k : Int) := hi
    have hlt : k < L.length := by subst hA; simp [ar, cmpI] at hc; omega
    refine draw_go tokT hA hS [0, 1, 2, 3, 4, 5, 6, 7, 8, 9, 10, 11, 12, 13, 14] rfl rfl fun Dk hD => ?_
    cbv
    replace hi : i = (k : Int) := hi
    obtain ⟨y, hy⟩ : ∃ y, y = nums[k]'(by rw [hL] at hlt; simpa using hlt) := ⟨_, rfl⟩
    refine ⟨by subst hA; simp [ar]; omega, ⟨.v (.int .i64 y), by subst hA; simp [ar, hL, hi, hy, I], ?_⟩⟩
    cbv
    refine draw_go tokT hA hS [0, 1, 2, 3, 4, 5, 6, 7, 8, 9, 10, 11, 12, 13] rfl rfl fun Dk hD2 => ?_
    cbv
    replace hi : i = (k : Int) := hi
    subst hA
    refine ⟨by simp [ar], i64_ok (by simp [ar]; omega), (i + 1, k + 1, _), [0], ⟨by simp; omega, by simp; omega⟩, by simp; omega, by decide, fun i hi => absurd hi (by simp), ⟨rfl, trivial⟩, ⟨rfl, rfl, rfl, trivial⟩, rfl, rfl⟩
  · rename_i hc
    cbv
    refine gh_done (hq x)


/-- What a table of verdicts holds. -/
structure HoldD (j : Jn) (N NB : Nat) (L : List D) : Prop where
  len : L.length = N
  row : ∀ n, n < N → ∃ R : List D, L[n]? = some (.sl 1 R) ∧ R.length = NB ∧ ∀ q, q < NB → R[q]? = some (I (verdI (noteR j (tkAmt (n : Int) q))))

theorem holdD_of {j : Jn} {N NB : Nat} {L : List D} (hN : IsI j.ins N) (hB : NB = (binsOf j.moves).length) (hL : L = (holdsJ j).map fun l => .sl 1 (l.map I)) : HoldD j N NB L := by
  have e : j.ins.toNat = N := by have := hN.eq; omega
  refine ⟨by rw [hL]; simp [holdsJ, e], fun n hn => ⟨((List.range NB).map fun b => verdI (noteR j (tkAmt (n : Int) b))).map I, ?_, by simp, fun q hq => ?_⟩⟩
  · rw [hL, holdsJ, e, hB, List.map_map, List.getElem?_map, List.getElem?_range hn]; rfl
  · rw [List.map_map, List.getElem?_map, List.getElem?_range hq]; rfl

theorem bol_set {l : List Bool} {b : Bool} {k n : Nat} {X : List D} (hX : X = (List.replicate k b ++ l.drop k).map bolD) (hl : l.length = n) (hk : k < n) : X.set k (.v (.bool b)) = (List.replicate (k + 1) b ++ l.drop (k + 1)).map bolD := by
  have hd : l.drop k = l[k] :: l.drop (k + 1) := List.drop_eq_getElem_cons (by omega)
  rw [hX, hd, List.map_append, List.map_cons, List.set_append_right _ _ (by simp), List.replicate_succ', List.append_assoc, List.map_append]
  congr 1
  rw [List.length_map, List.length_replicate, Nat.sub_self, List.set_cons_zero]
  rfl
theorem bol_get {l : List Bool} {b : Bool} {k n : Nat} {X : List D} (hX : X = (List.replicate k b ++ l.drop k).map bolD) (hl : l.length = n) (hk : k < n) : ∃ c, X[k]? = some (.v (.bool c)) := by
  refine ⟨l[k], ?_⟩
  rw [hX, List.getElem?_map, List.getElem?_append_right (by simp)]
  simp [bolD, hl, hk]
theorem bol_len {l : List Bool} {b : Bool} {k n : Nat} {X : List D} (hX : X = (List.replicate k b ++ l.drop k).map bolD) (hl : l.length = n) (hk : k ≤ n) : X.length = n := by rw [hX]; simp; omega
theorem bol_all {l : List Bool} {b : Bool} {k n : Nat} {X : List D} (hX : X = (List.replicate k b ++ l.drop k).map bolD) (hl : l.length = n) (hk : k = n) : X = (List.replicate n b).map bolD := by
  rw [hX, hk, List.drop_eq_nil_of_le (by omega), List.append_nil]

set_option maxRecDepth 40000 in
set_option maxHeartbeats 8000000 in
/-- BatchAny. -/
theorem wBatchAny (L : List D) (nums : List Int) (hL : L = nums.map I) (hl : L.length ≤ 9223372036854775807) (Q) (hq : Q (RA.ret (.v (.bool true))) []) : CallA Try.prog 6 [.sl 1 L] [] Q := by
  obtain ⟨A, hA⟩ : ∃ A, A = ar := ⟨_, rfl⟩
  have c00 : A.cmp .eql 0 0 = true := by subst hA; rfl
  have n00 : A.cmp .neq 0 0 = false := by subst hA; rfl
  have c90 : A.cmp .eql 9 0 = false := by subst hA; rfl
  have n99 : A.cmp .neq 9 9 = false := by subst hA; rfl
  have bT : A.bnot true = false := by subst hA; rfl
  have bF : A.bnot false = true := by subst hA; rfl
  have q1 : A.bnot (A.beq true (A.cmp .eql 0 0)) = false := by subst hA; rfl
  have q2 : A.bnot (A.beq false (A.cmp .eql 9 0)) = false := by subst hA; rfl
  refine callA_start tokT hA Try.func6 rfl rfl rfl rfl rfl fun S hS => ?_
  cbv
  refine ops_call hS [.sl 1 L] [] [] rfl rfl rfl rfl rfl rfl rfl rfl (by decide) trivial (newPotL L nums hL hl _ fun x => ?_)
  refine ops_go tokT hA hS ?_
  cbv
  refine ops_call hS [.b 0 0, I 8, I 1] [0] [pot x] rfl rfl rfl rfl rfl rfl rfl rfl (by decide) ⟨rfl, trivial⟩ (kJournalOf x 8 1 (by decide) ⟨by decide, by decide⟩ _ fun ins first ms lies truth x' FL ML TL RL hi1 hi4 hfl hm10 hmm hg hF hM hT hR => ?_)
  obtain ⟨n, hn⟩ : ∃ n, first.length = n := ⟨_, rfl⟩
  have hn2 : 1 ≤ n ∧ n ≤ 2 := by omega
  have hn1000 : n ≤ 1000 := by omega
  obtain ⟨m, hm⟩ : ∃ m, ms.length = m := ⟨_, rfl⟩
  have hm1000 : m ≤ 1000 := by omega
  obtain ⟨NB, hNB⟩ : ∃ NB, NB = (binsOf ms).length := ⟨_, rfl⟩
  have hFl : FL.length = n := by rw [hF]; simp [hn]
  have hMl : ML.length = m := by rw [hM]; simp [hm]
  have hRl : RL.length = NB := by rw [hR, hNB]; simp; have := hg.l.len; have := hg.b4; omega
  have hj : JOk ⟨ins, first, ms⟩ := hg.jok hi1 hi4 (by omega) (by omega) hm10
  obtain ⟨jx, hjx⟩ : ∃ jx : Jn, jx = ⟨ins, List.replicate n false, ms⟩ := ⟨_, rfl⟩
  obtain ⟨jy, hjy⟩ : ∃ jy : Jn, jy = ⟨ins, List.replicate n true, ms⟩ := ⟨_, rfl⟩
  have okx : JOk jx := by rw [hjx]; exact JOk.refirst (j := ⟨ins, first, ms⟩) (f := first) hj (by simp [hn])
  have oky : JOk jy := by rw [hjy]; exact JOk.refirst (j := ⟨ins, first, ms⟩) (f := first) hj (by simp [hn])
  have cx0 : checkJ jx = 0 := checkJ_of okx
  have cy0 : checkJ jy = 0 := checkJ_of oky
  have sx : standsJ jx = true := by
    obtain ⟨path, hp, -⟩ := hg.ends
    rw [hjx]
    exact stands_of (ends_any2 (j := ⟨ins, first, ms⟩) (f := first) hn hj _ hp)
  have hverd : standsJ jy = true → ∀ (i : Int) (b : Nat), verdI (noteR jx (tkAmt i b)) ≠ 3 → verdI (noteR jy (tkAmt i b)) = verdI (noteR jx (tkAmt i b)) := fun hs i b h => by
    subst hjx hjy
    exact any_verd (j := ⟨ins, first, ms⟩) oky hs i b h
  have limn : n ≤ 1152921504606846976 := by omega
  have limm : m ≤ 1152921504606846976 := by omega
  have fx : jx.first.length ≤ 1152921504606846976 := by rw [hjx]; simp; omega
  have fy : jy.first.length ≤ 1152921504606846976 := by rw [hjy]; simp; omega
  have mx : jx.moves.length ≤ 1152921504606846976 := by rw [hjx]; show ms.length ≤ _; omega
  have my : jy.moves.length ≤ 1152921504606846976 := by rw [hjy]; show ms.length ≤ _; omega
  obtain ⟨N, hN⟩ : ∃ N : Nat, IsI ins N := ⟨ins.toNat, ⟨by omega⟩⟩
  have hN4 : N ≤ 4 := by have := hN.eq; omega
  have hHx := fun X (hX : X = jx.first.map bolD) Q => bHolds jx fx mx X ML hX (by rw [hjx]; exact hM) Q
  have hHy := fun X (hX : X = jy.first.map bolD) Q => bHolds jy fy my X ML hX (by rw [hjy]; exact hM) Q
  have hSy := fun X (hX : X = jy.first.map bolD) Q => bStandsF jy fy my X ML hX (by rw [hjy]; exact hM) Q
  have ex : jx.ins = ins := by rw [hjx]
  have ey : jy.ins = ins := by rw [hjy]
  rw [ex] at hHx
  rw [ey] at hHy hSy
  have fxE : ∀ X, X = (List.replicate n false).map bolD → X = jx.first.map bolD := fun X h => by rw [hjx]; exact h
  have fyE : ∀ X, X = (List.replicate n true).map bolD → X = jy.first.map bolD := fun X h => by rw [hjy]; exact h
  have hNx : IsI jx.ins N := by rw [ex]; exact hN
  have hNy : IsI jy.ins N := by rw [ey]; exact hN
  have hBx : NB = (binsOf jx.moves).length := by rw [hjx]; exact hNB
  have hBy : NB = (binsOf jy.moves).length := by rw [hjy]; exact hNB
  have hlenOK : A.cmp .neq (A.oi N) ins = false := by subst hA; have := hN.eq; simp [ar, cmpI]; omega
  refine ops_go tokT hA hS ?_
  cbv
  refine code_gs hS (gs_frz hA [1] (gs_view (a := { env := [(3, .cb (.agg [I ins, .sl 1 FL, .sl 5 ML]) 0), (5, .sl 1 RL)], H := [], nt := 149, dfs := [] }) [] ⟨by decide, pre0, trivial, ⟨rfl, rfl, trivial⟩, rfl, rfl⟩ (gs_done ?_)))
  refine draw_go tokT hA hS [0, 2, 4, 5, 1, 3, 6, 7] rfl rfl fun Dk hD => ?_
  cbv
  refine draw_call hA hD [.agg [I ins, .sl 1 FL, .sl 5 ML]] [] [] rfl rfl rfl rfl rfl rfl rfl rfl rfl rfl rfl (by decide) trivial (kCopyJournal ins FL ML n m hFl hMl hn1000 hm1000 _ ⟨by cbv; repeat' (first | exact trivial | exact rfl | refine ⟨?_, ?_⟩), draw_on tokT hA hD ?_⟩)
  cbv
  refine draw_call hA hD [.agg [I ins, .sl 1 FL, .sl 5 ML]] [] [] rfl rfl rfl rfl rfl rfl rfl rfl rfl rfl rfl (by decide) trivial (kCopyJournal ins FL ML n m hFl hMl hn1000 hm1000 _ ⟨by cbv; repeat' (first | exact trivial | exact rfl | refine ⟨?_, ?_⟩), draw_on tokT hA hD ?_⟩)
  cbv
  refine at_code hS ?_
  refine wpa_loopG (α := Int × Nat × List D × List D) (fun q => { env := [(3, .cb (.agg [I ins, .sl 1 FL, .sl 5 ML]) 0), (5, .sl 1 RL), (6, .b 0 0), (7, .b 1 0), (8, I q.1)], H := [.box (.agg [I ins, .o 2 1 n, .o 3 5 m]), .box (.agg [I ins, .o 4 1 n, .o 5 5 m]), .els 1 q.2.2.1, .els 5 ML, .els 1 q.2.2.2, .els 5 ML], nt := 149, dfs := [] })
    (fun q => n - q.2.1) (fun q => q.2.1 ≤ n ∧ IsI q.1 q.2.1 ∧ q.2.2.1 = (List.replicate q.2.1 false ++ first.drop q.2.1).map bolD ∧ q.2.2.2 = (List.replicate q.2.1 true ++ first.drop q.2.1).map bolD) (0, 0, FL, FL) ⟨Nat.zero_le _, ⟨rfl⟩, hF, hF⟩ ?_ ?_
  · exact gs_to [0, 1, 2, 3, 4, 5] ⟨by decide, pre0, ⟨rfl, rfl, rfl, rfl, rfl, rfl, trivial⟩, ⟨rfl, rfl, rfl, rfl, rfl, trivial⟩, rfl, rfl⟩
  rintro ⟨i, k, X, Y⟩ ⟨u1, u2, u3, u4⟩
  dsimp only at u1 u2 u3 u4
  have hXl := bol_len u3 hn u1
  have hYl := bol_len u4 hn u1
  have hyes : A.cmp .lss i (A.oi (A.len FL)) = true → k < n := fun c => yltL hA hFl u2 c
  have hno : A.cmp .lss i (A.oi (A.len FL)) = false → k = n := fun c => by have := ynltL hA hFl u2 c; omega
  refine wp_go tokT hA hS ?_
  cbv
  refine bm (fun c => ?_) (fun c => ?_)
  · have hk := hyes c
    have hin : A.inb i n := yinb hA u2 hk
    have hf1 := yfit1 hA u2 (by omega)
    have hu2 := ysucc hA u2
    have hms : n - (k + 1) < n - k := by omega
    obtain ⟨cX, hcX⟩ := bol_get u3 hn hk
    obtain ⟨cY, hcY⟩ := bol_get u4 hn hk
    have gX := yget hA u2 hcX
    have gY := yget hA u2 hcY
    have hX2 : A.set X (A.tn i) (.v (.bool false)) = (List.replicate (k + 1) false ++ first.drop (k + 1)).map bolD := yset hA u2 (bol_set u3 hn hk).symm
    have hY2 : A.set Y (A.tn i) (.v (.bool true)) = (List.replicate (k + 1) true ++ first.drop (k + 1)).map bolD := yset hA u2 (bol_set u4 hn hk).symm
    cbv
    refine draw_go tokT hA hS [0, 1, 2, 3, 4, 5, 6, 8, 7, 9] rfl rfl fun Dk hD => ?_
    cbv
    refine ⟨hin, hin, ⟨_, gX, ?_⟩⟩
    cbv
    refine ⟨_, gY, ?_⟩
    cbv
    refine ⟨hf1, ?_⟩
    refine gs_loop (A.add i 1, k + 1, A.set X (A.tn i) (.v (.bool false)), A.set Y (A.tn i) (.v (.bool true))) [0, 1, 2, 3, 4, 5] ⟨hk, hu2, hX2, hY2⟩ hms ?_
    exact ⟨by decide, pre0, ⟨rfl, rfl, rfl, rfl, rfl, rfl, trivial⟩, ⟨rfl, rfl, rfl, rfl, rfl, trivial⟩, rfl, rfl⟩
  have hk := hno c
  have hXE := fxE X (bol_all u3 hn hk)
  have hYE := fyE Y (bol_all u4 hn hk)
  cbv
  refine gs_done ?_
  cbv
  refine ops_gs hS (gs_frz hA [2, 3, 4, 5] ?_)
  cbv
  repeat (refine ⟨by first | exact yeqLen hA hXl | exact yeqLen hA hYl | exact yeqLen hA hMl, ?_⟩)
  refine gs_done ?_
  refine ops_call hS [.agg [I ins, .sl 1 X, .sl 5 ML]] [] [] rfl rfl rfl rfl rfl rfl rfl rfl (by decide) trivial (hHx X hXE _ (fun e h1 h2 => no_err cx0 h1 h2) (fun _ h => no_std sx h) (fun _ _ HX hHX => ?_))
  have hDX := holdD_of hNx hBx hHX
  have hHXl := hDX.len
  refine ops_go tokT hA hS ?_
  cbv
  refine ops_call hS [.agg [I ins, .sl 1 Y, .sl 5 ML]] [] [] rfl rfl rfl rfl rfl rfl rfl rfl (by decide) trivial (hHy Y hYE _ (fun e h1 h2 => no_err cy0 h1 h2) (fun _ hs0 => ?_) (fun _ hs1 HY hHY => ?_))
  · refine ops_go tokT hA hS ?_
    cbv
    refine ops_call hS [.agg [I ins, .sl 1 Y, .sl 5 ML]] [] [] rfl rfl rfl rfl rfl rfl rfl rfl (by decide) trivial (hSy Y hYE _ (fun e h1 h2 => no_err cy0 h1 h2) (fun _ b hb => ?_))
    have hbF : b = false := hb.trans hs0
    subst hbF
    have hlen2 : A.cmp .neq (A.oi (A.len HX)) ins = false := by rw [xlen hA hHXl]; exact hlenOK
    refine ops_go tokT hA hS ?_
    cbv
    refine bmF n00 ?_
    cbv
    refine bmF n00 ?_
    cbv
    refine bmF q2 ?_
    cbv
    refine bmT bF ?_
    cbv
    refine bmF n99 ?_
    cbv
    refine bmF hlen2 ?_
    cbv
    refine bmT bF ?_
    cbv
    refine ops_call hS [] [] [] rfl rfl rfl rfl rfl rfl rfl rfl (by decide) trivial (lStored _ ?_)
    refine ops_go tokT hA hS ?_
    cbv
    exact gh_view [] (by decide) pre0 (H' := []) (d' := .v (.bool true)) trivial rfl (gh_done hq)
  · have hDY := holdD_of hNy hBy hHY
    have hHYl := hDY.len
    have hvv := hverd hs1
    refine ops_go tokT hA hS ?_
    cbv
    refine ops_call hS [.agg [I ins, .sl 1 Y, .sl 5 ML]] [] [] rfl rfl rfl rfl rfl rfl rfl rfl (by decide) trivial (hSy Y hYE _ (fun e h1 h2 => no_err cy0 h1 h2) (fun _ b hb => ?_))
    have hbT : b = true := hb.trans hs1
    subst hbT
    have hlen2 : A.cmp .neq (A.oi (A.len HX)) ins = false := by rw [xlen hA hHXl]; exact hlenOK
    have hlen3 : A.cmp .neq (A.oi (A.len HY)) ins = false := by rw [xlen hA hHYl]; exact hlenOK
    refine ops_go tokT hA hS ?_
    cbv
    refine bmF n00 ?_
    cbv
    refine bmF n00 ?_
    cbv
    refine bmF q1 ?_
    cbv
    refine bmF bT ?_
    cbv
    refine bmF hlen2 ?_
    cbv
    refine bmF bT ?_
    cbv
    refine bmF hlen3 ?_
    cbv
    refine at_code hS ?_
    refine wpa_loopG (α := Int × Nat) (fun q => { env := [(3, .cb (.agg [I ins, .sl 1 FL, .sl 5 ML]) 0), (5, .sl 1 RL), (9, .sl 1 HX), (11, .sl 1 HY), (15, I q.1)], H := [], nt := 149, dfs := [] })
      (fun q => N - q.2) (fun q => q.2 ≤ N ∧ IsI q.1 q.2) (0, 0) ⟨Nat.zero_le _, ⟨rfl⟩⟩ ?_ ?_
    · exact gs_to [] ⟨by decide, pre0, trivial, ⟨rfl, rfl, rfl, rfl, rfl, trivial⟩, rfl, rfl⟩
    rintro ⟨a, t⟩ ⟨v1, v2⟩
    dsimp only at v1 v2
    have hyes2 : A.cmp .lss a ins = true → t < N := fun c => by have := xlt hA c; have := hN.eq; have := v2.eq; omega
    refine wp_go tokT hA hS ?_
    cbv
    refine bm (fun c2 => ?_) (fun c2 => ?_)
    · have ht := hyes2 c2
      obtain ⟨RX, rx1, rx2, rx3⟩ := hDX.row t ht
      obtain ⟨RY, ry1, ry2, ry3⟩ := hDY.row t ht
      have iX := yinbL hA hHXl v2 ht
      have iY := yinbL hA hHYl v2 ht
      have gX := yget hA v2 rx1
      have gY := yget hA v2 ry1
      have hfa := yfit1 hA v2 (by omega)
      have hv2 := ysucc hA v2
      have hms2 : N - (t + 1) < N - t := by omega
      have hlX : A.cmp .neq (A.oi (A.len RX)) (A.oi (A.len RL)) = false := by rw [xlen hA rx2, xlen hA hRl]; subst hA; simp [ar, cmpI]
      have hlY : A.cmp .neq (A.oi (A.len RY)) (A.oi (A.len RL)) = false := by rw [xlen hA ry2, xlen hA hRl]; subst hA; simp [ar, cmpI]
      have hvt : ∀ q : Nat, verdI (noteR jx (tkAmt (t : Int) q)) ≠ 3 → verdI (noteR jy (tkAmt (t : Int) q)) = verdI (noteR jx (tkAmt (t : Int) q)) := fun q h => hvv _ q h
      cbv
      refine ⟨iX, ⟨_, gX, ?_⟩⟩
      cbv
      refine bmF hlX ?_
      cbv
      refine ⟨iY, ⟨_, gY, ?_⟩⟩
      cbv
      refine bmF hlY ?_
      cbv
      refine at_code hS ?_
      refine wpa_loopG (α := Int × Nat) (fun q => { env := [(3, .cb (.agg [I ins, .sl 1 FL, .sl 5 ML]) 0), (5, .sl 1 RL), (9, .sl 1 HX), (11, .sl 1 HY), (15, I a), (16, I q.1)], H := [], nt := 149, dfs := [] })
        (fun q => NB - q.2) (fun q => q.2 ≤ NB ∧ IsI q.1 q.2) (0, 0) ⟨Nat.zero_le _, ⟨rfl⟩⟩ ?_ ?_
      · exact gs_to [] ⟨by decide, pre0, trivial, ⟨rfl, rfl, rfl, rfl, rfl, rfl, trivial⟩, rfl, rfl⟩
      rintro ⟨b, r⟩ ⟨w1, w2⟩
      dsimp only at w1 w2
      have hyes3 : A.cmp .lss b (A.oi (A.len RL)) = true → r < NB := fun c => yltL hA hRl w2 c
      refine wp_go tokT hA hS ?_
      cbv
      refine bm (fun c3 => ?_) (fun c3 => ?_)
      · have hr := hyes3 c3
        obtain ⟨vx, hvx⟩ : ∃ vx, vx = verdI (noteR jx (tkAmt (t : Int) r)) := ⟨_, rfl⟩
        obtain ⟨vy, hvy⟩ : ∃ vy, vy = verdI (noteR jy (tkAmt (t : Int) r)) := ⟨_, rfl⟩
        have gx := rx3 r hr
        have gy := ry3 r hr
        rw [← hvx] at gx
        rw [← hvy] at gy
        have jX := yinbL hA rx2 w2 hr
        have jY := yinbL hA ry2 w2 hr
        have kX := yget hA w2 gx
        have kY := yget hA w2 gy
        have hfb := yfit1 hA w2 (by have := hg.b4; omega)
        have hw2 := ysucc hA w2
        have hms3 : NB - (r + 1) < NB - r := by omega
        have hne : A.cmp .neq vx 3 = true → A.cmp .neq vy vx = false := fun c => by
          have h1 := xne hA c
          have h2 : vy = vx := by rw [hvx, hvy]; exact hvt r (by rw [← hvx]; exact h1)
          subst hA; simp [ar, cmpI, h2]
        cbv
        refine draw_go tokT hA hS [0, 1, 2, 3, 4, 5, 6, 7, 8, 9, 10, 11, 12, 13, 14, 15, 16, 17, 18, 19, 20, 21, 22, 23, 24] rfl rfl fun Dk hD => ?_
        cbv
        refine ⟨iX, ⟨_, gX, ?_⟩⟩
        cbv
        refine ⟨jX, ⟨_, kX, ?_⟩⟩
        cbv
        refine bm (fun c4 => ?_) (fun c4 => ?_)
        · have hz := hne c4
          cbv
          refine ⟨iY, ⟨_, gY, ?_⟩⟩
          cbv
          refine ⟨jY, ⟨_, kY, ?_⟩⟩
          cbv
          refine ⟨iX, ⟨_, gX, ?_⟩⟩
          cbv
          refine ⟨jX, ⟨_, kX, ?_⟩⟩
          cbv
          refine bmF hz ?_
          cbv
          refine ⟨hfb, ?_⟩
          refine gs_loop (A.add b 1, r + 1) [] ⟨hr, hw2⟩ hms3 ?_
          exact ⟨by decide, pre0, trivial, ⟨rfl, rfl, rfl, rfl, rfl, rfl, trivial⟩, rfl, rfl⟩
        · cbv
          refine ⟨hfb, ?_⟩
          refine gs_loop (A.add b 1, r + 1) [] ⟨hr, hw2⟩ hms3 ?_
          exact ⟨by decide, pre0, trivial, ⟨rfl, rfl, rfl, rfl, rfl, rfl, trivial⟩, rfl, rfl⟩
      · cbv
        refine gs_done ?_
        cbv
        refine ⟨hfa, ?_⟩
        refine gs_loop (A.add a 1, t + 1) [] ⟨ht, hv2⟩ hms2 ?_
        exact ⟨by decide, pre0, trivial, ⟨rfl, rfl, rfl, rfl, rfl, trivial⟩, rfl, rfl⟩
    · cbv
      refine gs_done ?_
      cbv
      refine ops_call hS [] [] [] rfl rfl rfl rfl rfl rfl rfl rfl (by decide) trivial (lStored _ ?_)
      refine ops_go tokT hA hS ?_
      cbv
      exact gh_view [] (by decide) pre0 (H' := []) (d' := .v (.bool true)) trivial rfl (gh_done hq)
end Go.Proofs.Ytecfpfhkicapeaa

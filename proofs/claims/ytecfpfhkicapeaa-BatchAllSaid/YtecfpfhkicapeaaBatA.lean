/- Part BatA of the proofs about the benches of the accordion maker: see the last text of the claim for what is proved. -/
import Derived.Test.YtecfpfhkicapeaaProg
import Derived.KernelRfl
import Derived.Test.YtecfpfhkicapeaaMachD
import Derived.Test.YtecfpfhkicapeaaMachE
import Derived.Test.YtecfpfhkicapeaaSaysA
set_option linter.unusedVariables false
set_option linter.unusedSimpArgs false
set_option linter.unnecessarySimpa false
set_option linter.constructorNameAsVariable false

namespace Go.Proofs.Ytecfpfhkicapeaa
open Go Go.Abs Go.Proofs
def TDl : List (Nat × TE) := [
 (3, ⟨1, 8, false, .v (.int .i64 0), none, [], some .i64, 10, true, none, some 1⟩),
 (25, ⟨3, 56, true, .agg [.v (.int .i64 0), .v (.slice none 0 0), .v (.slice none 0 0)], none, [(0, 1, 0), (1, 1, 0), (2, 1, 0)], none, 8, true, none, none⟩),
 (30, ⟨1, 24, false, .v (.slice none 0 0), some (none, 3), [], none, 3, true, none, none⟩),
 (29, ⟨5, 40, true, .agg [.v (.int .i64 0), .v (.int .i64 0), .v (.int .i64 0), .v (.int .i64 0), .v (.int .i64 0)], none, [(0, 1, 0), (1, 1, 0), (2, 1, 0), (3, 2, 1)], none, 8, true, none, some 5⟩),
 (27, ⟨2, 16, true, .agg [.v (.int .i64 0), .v (.int .i64 0)], none, [(0, 1, 0), (1, 1, 0)], none, 8, true, none, some 2⟩),
 (23, ⟨1, 24, false, .v (.slice none 0 0), some (none, 29), [], none, 3, true, none, none⟩),
 (50, ⟨1, 24, false, .v (.slice none 0 0), some (none, 30), [], none, 3, true, none, none⟩),
 (4, ⟨1, 1, false, .v (.bool false), none, [], none, 1, true, none, none⟩),
 (42, ⟨1, 8, false, .v (.int .i64 0), none, [], some .i64, 10, true, none, some 1⟩),
 (22, ⟨1, 24, false, .v (.slice none 0 0), some (none, 4), [], none, 3, true, none, none⟩),
 (33, ⟨1, 8, false, .v (.pointer none), none, [], none, 5, true, none, none⟩),
 (120, ⟨5, 40, true, .agg [.v (.int .i64 0), .v (.int .i64 0), .v (.int .i64 0), .v (.int .i64 0), .v (.int .i64 0)], none, [(0, 4, 1), (4, 1, 0)], none, 8, true, none, some 5⟩),
 (75, ⟨2, 48, true, .agg [.v (.slice none 0 0), .v (.slice none 0 0)], none, [(0, 1, 0), (1, 1, 0)], none, 8, true, none, none⟩),
 (53, ⟨1, 24, false, .v (.slice none 0 0), some (none, 27), [], none, 3, true, none, none⟩),
 (112, ⟨5, 88, true, .agg [.v (.int .i64 0), .v (.slice none 0 0), .v (.slice none 0 0), .v (.slice none 0 0), .v (.nilFunc)], none, [(0, 3, 1), (3, 1, 0), (4, 1, 0)], none, 8, true, none, none⟩),
 (72, ⟨1, 24, false, .v (.slice none 0 0), some (none, 75), [], none, 3, true, none, none⟩),
 (128, ⟨4, 48, true, .agg [.v (.int .i64 0), .v (.int .i64 0), .v (.int .i64 0), .v (.slice none 0 0)], none, [(0, 1, 0), (1, 1, 0), (2, 1, 0), (3, 1, 0)], none, 8, true, none, none⟩),
 (40, ⟨1, 24, false, .v (.slice none 0 0), some (none, 25), [], none, 3, true, none, none⟩),
 (93, ⟨1, 8, false, .v (.int .u64 0), none, [], some .u64, 10, true, none, none⟩),
 (103, ⟨1, 8, false, .v (.map none), none, [], none, 4, true, some (120, 4), none⟩),
 (110, ⟨1, 8, false, .v (.nilFunc), none, [], none, 6, true, none, none⟩),
 (121, ⟨1, 8, false, .v (.int .i64 0), none, [], some .i64, 10, true, none, some 1⟩),
 (35, ⟨1, 24, false, .v (.slice none 0 0), some (none, 85), [], none, 3, true, none, none⟩),
 (85, ⟨2, 32, true, .agg [.v (.int .i64 0), .v (.slice none 0 0)], none, [(0, 1, 0), (1, 1, 0)], none, 8, true, none, none⟩),
 (102, ⟨3, 40, true, .agg [.v (.nilFunc), .v (.bool false), .v (.slice none 0 0)], none, [(0, 1, 0), (1, 1, 0), (2, 1, 0)], none, 8, true, none, none⟩),
 (118, ⟨4, 32, true, .agg [.v (.int .i64 0), .v (.int .i64 0), .v (.int .i64 0), .v (.int .i64 0)], some (some 4, 3), [], none, 9, true, none, some 4⟩),
 (152, ⟨1, 24, false, .v (.slice none 0 0), some (none, 155), [], none, 3, true, none, none⟩),
 (95, ⟨1, 8, true, .agg [.v (.int .u64 0)], none, [(0, 1, 0)], none, 8, true, none, none⟩),
 (159, ⟨5, 40, true, .agg [.v (.int .i64 0), .v (.int .i64 0), .v (.int .i64 0), .v (.int .i64 0), .v (.int .i64 0)], none, [(0, 5, 1)], none, 8, true, none, some 5⟩),
 (157, ⟨6, 48, true, .agg [.v (.int .i64 0), .v (.int .i64 0), .v (.int .i64 0), .v (.int .i64 0), .v (.int .i64 0), .v (.int .i64 0)], none, [(0, 5, 1), (5, 1, 0)], none, 8, true, none, some 6⟩),
 (162, ⟨5, 40, true, .agg [.v (.int .i64 0), .v (.int .i64 0), .v (.int .i64 0), .v (.int .i64 0), .v (.int .i64 0)], none, [(0, 5, 1)], none, 8, true, none, some 5⟩),
 (155, ⟨1, 16, false, .v (.nilIface), none, [], none, 7, true, none, none⟩),
 (116, ⟨1, 8, false, .v (.nilFunc), none, [], none, 6, true, none, none⟩),
 (145, ⟨0, 0, true, .agg [], none, [], none, 8, true, none, some 0⟩),
 (107, ⟨1, 8, false, .v (.nilFunc), none, [], none, 6, true, none, none⟩),
 (9, ⟨1, 16, false, .v (.string ⟨#[]⟩), none, [], none, 2, true, none, none⟩),
 (20, ⟨1, 16, false, .v (.nilIface), none, [], none, 7, true, none, none⟩),
 (165, ⟨1, 8, false, .v (.nilFunc), none, [], none, 6, true, none, none⟩),
 (100, ⟨1, 8, false, .v (.nilFunc), none, [], none, 6, true, none, none⟩)]
def TD (n : Nat) : Option TE := lkp TDl n
theorem te3 : Z3c Try.prog 3 = some ⟨1, 8, false, .v (.int .i64 0), none, [], some .i64, 10, true, none, some 1⟩ /\ zsB Try.prog 3 = true := ⟨by kernel_rfl, by kernel_rfl⟩
theorem Zyz : Z3c Try.prog 25 = some ⟨3, 56, true, .agg [.v (.int .i64 0), .v (.slice none 0 0), .v (.slice none 0 0)], none, [(0, 1, 0), (1, 1, 0), (2, 1, 0)], none, 8, true, none, none⟩ /\ zsB Try.prog 25 = true := ⟨by kernel_rfl, by kernel_rfl⟩
theorem Zz0 : Z3c Try.prog 30 = some ⟨1, 24, false, .v (.slice none 0 0), some (none, 3), [], none, 3, true, none, none⟩ /\ zsB Try.prog 30 = true := ⟨by kernel_rfl, by kernel_rfl⟩
theorem Zz1 : Z3c Try.prog 29 = some ⟨5, 40, true, .agg [.v (.int .i64 0), .v (.int .i64 0), .v (.int .i64 0), .v (.int .i64 0), .v (.int .i64 0)], none, [(0, 1, 0), (1, 1, 0), (2, 1, 0), (3, 2, 1)], none, 8, true, none, some 5⟩ /\ zsB Try.prog 29 = true := ⟨by kernel_rfl, by kernel_rfl⟩
theorem Zz2 : Z3c Try.prog 27 = some ⟨2, 16, true, .agg [.v (.int .i64 0), .v (.int .i64 0)], none, [(0, 1, 0), (1, 1, 0)], none, 8, true, none, some 2⟩ /\ zsB Try.prog 27 = true := ⟨by kernel_rfl, by kernel_rfl⟩
theorem Zz3 : Z3c Try.prog 23 = some ⟨1, 24, false, .v (.slice none 0 0), some (none, 29), [], none, 3, true, none, none⟩ /\ zsB Try.prog 23 = true := ⟨by kernel_rfl, by kernel_rfl⟩
theorem Zz4 : Z3c Try.prog 50 = some ⟨1, 24, false, .v (.slice none 0 0), some (none, 30), [], none, 3, true, none, none⟩ /\ zsB Try.prog 50 = true := ⟨by kernel_rfl, by kernel_rfl⟩
theorem te4 : Z3c Try.prog 4 = some ⟨1, 1, false, .v (.bool false), none, [], none, 1, true, none, none⟩ /\ zsB Try.prog 4 = true := ⟨by kernel_rfl, by kernel_rfl⟩
theorem Zz5 : Z3c Try.prog 42 = some ⟨1, 8, false, .v (.int .i64 0), none, [], some .i64, 10, true, none, some 1⟩ /\ zsB Try.prog 42 = true := ⟨by kernel_rfl, by kernel_rfl⟩
theorem Zz6 : Z3c Try.prog 22 = some ⟨1, 24, false, .v (.slice none 0 0), some (none, 4), [], none, 3, true, none, none⟩ /\ zsB Try.prog 22 = true := ⟨by kernel_rfl, by kernel_rfl⟩
theorem Zz7 : Z3c Try.prog 33 = some ⟨1, 8, false, .v (.pointer none), none, [], none, 5, true, none, none⟩ /\ zsB Try.prog 33 = true := ⟨by kernel_rfl, by kernel_rfl⟩
theorem Zxo : Z3c Try.prog 120 = some ⟨5, 40, true, .agg [.v (.int .i64 0), .v (.int .i64 0), .v (.int .i64 0), .v (.int .i64 0), .v (.int .i64 0)], none, [(0, 4, 1), (4, 1, 0)], none, 8, true, none, some 5⟩ /\ zsB Try.prog 120 = true := ⟨by kernel_rfl, by kernel_rfl⟩
theorem Zz8 : Z3c Try.prog 75 = some ⟨2, 48, true, .agg [.v (.slice none 0 0), .v (.slice none 0 0)], none, [(0, 1, 0), (1, 1, 0)], none, 8, true, none, none⟩ /\ zsB Try.prog 75 = true := ⟨by kernel_rfl, by kernel_rfl⟩
theorem Zz9 : Z3c Try.prog 53 = some ⟨1, 24, false, .v (.slice none 0 0), some (none, 27), [], none, 3, true, none, none⟩ /\ zsB Try.prog 53 = true := ⟨by kernel_rfl, by kernel_rfl⟩
theorem Zxp : Z3c Try.prog 112 = some ⟨5, 88, true, .agg [.v (.int .i64 0), .v (.slice none 0 0), .v (.slice none 0 0), .v (.slice none 0 0), .v (.nilFunc)], none, [(0, 3, 1), (3, 1, 0), (4, 1, 0)], none, 8, true, none, none⟩ /\ zsB Try.prog 112 = true := ⟨by kernel_rfl, by kernel_rfl⟩
theorem Zza : Z3c Try.prog 72 = some ⟨1, 24, false, .v (.slice none 0 0), some (none, 75), [], none, 3, true, none, none⟩ /\ zsB Try.prog 72 = true := ⟨by kernel_rfl, by kernel_rfl⟩
theorem Zxq : Z3c Try.prog 128 = some ⟨4, 48, true, .agg [.v (.int .i64 0), .v (.int .i64 0), .v (.int .i64 0), .v (.slice none 0 0)], none, [(0, 1, 0), (1, 1, 0), (2, 1, 0), (3, 1, 0)], none, 8, true, none, none⟩ /\ zsB Try.prog 128 = true := ⟨by kernel_rfl, by kernel_rfl⟩
theorem Zzb : Z3c Try.prog 40 = some ⟨1, 24, false, .v (.slice none 0 0), some (none, 25), [], none, 3, true, none, none⟩ /\ zsB Try.prog 40 = true := ⟨by kernel_rfl, by kernel_rfl⟩
theorem Zzc : Z3c Try.prog 93 = some ⟨1, 8, false, .v (.int .u64 0), none, [], some .u64, 10, true, none, none⟩ /\ zsB Try.prog 93 = true := ⟨by kernel_rfl, by kernel_rfl⟩
theorem Zxr : Z3c Try.prog 103 = some ⟨1, 8, false, .v (.map none), none, [], none, 4, true, some (120, 4), none⟩ /\ zsB Try.prog 103 = true := ⟨by kernel_rfl, by kernel_rfl⟩
theorem Zxs : Z3c Try.prog 110 = some ⟨1, 8, false, .v (.nilFunc), none, [], none, 6, true, none, none⟩ /\ zsB Try.prog 110 = true := ⟨by kernel_rfl, by kernel_rfl⟩
theorem Zxt : Z3c Try.prog 121 = some ⟨1, 8, false, .v (.int .i64 0), none, [], some .i64, 10, true, none, some 1⟩ /\ zsB Try.prog 121 = true := ⟨by kernel_rfl, by kernel_rfl⟩
theorem Zzd : Z3c Try.prog 35 = some ⟨1, 24, false, .v (.slice none 0 0), some (none, 85), [], none, 3, true, none, none⟩ /\ zsB Try.prog 35 = true := ⟨by kernel_rfl, by kernel_rfl⟩
theorem Zze : Z3c Try.prog 85 = some ⟨2, 32, true, .agg [.v (.int .i64 0), .v (.slice none 0 0)], none, [(0, 1, 0), (1, 1, 0)], none, 8, true, none, none⟩ /\ zsB Try.prog 85 = true := ⟨by kernel_rfl, by kernel_rfl⟩
theorem Zxu : Z3c Try.prog 102 = some ⟨3, 40, true, .agg [.v (.nilFunc), .v (.bool false), .v (.slice none 0 0)], none, [(0, 1, 0), (1, 1, 0), (2, 1, 0)], none, 8, true, none, none⟩ /\ zsB Try.prog 102 = true := ⟨by kernel_rfl, by kernel_rfl⟩
theorem Zxv : Z3c Try.prog 118 = some ⟨4, 32, true, .agg [.v (.int .i64 0), .v (.int .i64 0), .v (.int .i64 0), .v (.int .i64 0)], some (some 4, 3), [], none, 9, true, none, some 4⟩ /\ zsB Try.prog 118 = true := ⟨by kernel_rfl, by kernel_rfl⟩
theorem Zxw : Z3c Try.prog 152 = some ⟨1, 24, false, .v (.slice none 0 0), some (none, 155), [], none, 3, true, none, none⟩ /\ zsB Try.prog 152 = true := ⟨by kernel_rfl, by kernel_rfl⟩
theorem Zzf : Z3c Try.prog 95 = some ⟨1, 8, true, .agg [.v (.int .u64 0)], none, [(0, 1, 0)], none, 8, true, none, none⟩ /\ zsB Try.prog 95 = true := ⟨by kernel_rfl, by kernel_rfl⟩
theorem Zxx : Z3c Try.prog 159 = some ⟨5, 40, true, .agg [.v (.int .i64 0), .v (.int .i64 0), .v (.int .i64 0), .v (.int .i64 0), .v (.int .i64 0)], none, [(0, 5, 1)], none, 8, true, none, some 5⟩ /\ zsB Try.prog 159 = true := ⟨by kernel_rfl, by kernel_rfl⟩
theorem Zxy : Z3c Try.prog 157 = some ⟨6, 48, true, .agg [.v (.int .i64 0), .v (.int .i64 0), .v (.int .i64 0), .v (.int .i64 0), .v (.int .i64 0), .v (.int .i64 0)], none, [(0, 5, 1), (5, 1, 0)], none, 8, true, none, some 6⟩ /\ zsB Try.prog 157 = true := ⟨by kernel_rfl, by kernel_rfl⟩
theorem Zxz : Z3c Try.prog 162 = some ⟨5, 40, true, .agg [.v (.int .i64 0), .v (.int .i64 0), .v (.int .i64 0), .v (.int .i64 0), .v (.int .i64 0)], none, [(0, 5, 1)], none, 8, true, none, some 5⟩ /\ zsB Try.prog 162 = true := ⟨by kernel_rfl, by kernel_rfl⟩
theorem Zy0 : Z3c Try.prog 155 = some ⟨1, 16, false, .v (.nilIface), none, [], none, 7, true, none, none⟩ /\ zsB Try.prog 155 = true := ⟨by kernel_rfl, by kernel_rfl⟩
theorem Zy1 : Z3c Try.prog 116 = some ⟨1, 8, false, .v (.nilFunc), none, [], none, 6, true, none, none⟩ /\ zsB Try.prog 116 = true := ⟨by kernel_rfl, by kernel_rfl⟩
theorem Zy2 : Z3c Try.prog 145 = some ⟨0, 0, true, .agg [], none, [], none, 8, true, none, some 0⟩ /\ zsB Try.prog 145 = true := ⟨by kernel_rfl, by kernel_rfl⟩
theorem Zy3 : Z3c Try.prog 107 = some ⟨1, 8, false, .v (.nilFunc), none, [], none, 6, true, none, none⟩ /\ zsB Try.prog 107 = true := ⟨by kernel_rfl, by kernel_rfl⟩
theorem te9 : Z3c Try.prog 9 = some ⟨1, 16, false, .v (.string ⟨#[]⟩), none, [], none, 2, true, none, none⟩ /\ zsB Try.prog 9 = true := ⟨by kernel_rfl, by kernel_rfl⟩
theorem Zzg : Z3c Try.prog 20 = some ⟨1, 16, false, .v (.nilIface), none, [], none, 7, true, none, none⟩ /\ zsB Try.prog 20 = true := ⟨by kernel_rfl, by kernel_rfl⟩
theorem Zy4 : Z3c Try.prog 165 = some ⟨1, 8, false, .v (.nilFunc), none, [], none, 6, true, none, none⟩ /\ zsB Try.prog 165 = true := ⟨by kernel_rfl, by kernel_rfl⟩
theorem Zy5 : Z3c Try.prog 100 = some ⟨1, 8, false, .v (.nilFunc), none, [], none, 6, true, none, none⟩ /\ zsB Try.prog 100 = true := ⟨by kernel_rfl, by kernel_rfl⟩
theorem Z0 : TOK Try.prog TD := Zwk (fun _ => rfl) (
 ⟨te3, Zyz, Zz0, Zz1, Zz2, Zz3, Zz4, te4, Zz5, Zz6, Zz7, Zxo, Zz8, Zz9, Zxp, Zza, Zxq, Zzb, Zzc, Zxr, Zxs, Zxt, Zzd, Zze, Zxu, Zxv, Zxw, Zzf, Zxx, Zxy, Zxz, Zy0, Zy1, Zy2, Zy3, te9, Zzg, Zy4, Zy5, trivial⟩) (by kernel_rfl)
end Go.Proofs.Ytecfpfhkicapeaa

namespace Go.Proofs.Ytecfpfhkicapeaa
open Go Go.Abs Go.Proofs
def I (x : Int) : D := .v (.int .i64 x)
def IL (l : List Int) : D := .sl 1 (l.map I)
theorem Zdh {n : Int} (h : -9223372036854775808 <= n /\ n <= 9223372036854775807) : IntKind.i64.wrap n = n := by rw [IntKind.wrap_i64]; omega
theorem Zzh (L : List D) (hL : L.length <= 1048576) (Q) (hq : ∀ n, n = L.length -> Q (RA.ret (.o 0 1 n)) [.els 1 L]) :
  CallA Try.prog 54 [.sl 1 L] [] Q := by
 obtain ⟨A, hA⟩ : ∃ A, A = ar := ⟨_, rfl⟩;refine Z5 Z0 hA Try.func54 rfl rfl rfl rfl rfl fun S hS => ?_;cbv;subst hA;refine ⟨rfl, by simp [ar]; omega, ?_⟩;refine Z2 [1] (by decide) (fun i hi => absurd hi (by simp)) (H' := [.els 1 L]) (d' := .o 0 1 L.length) ⟨Zra rfl rfl, trivial⟩ ?_ (Z1 (hq _ rfl));simp [renD, ar]; rfl
theorem Zzx (L : List (List Int)) (L' : List D) (hL' : L' = L.map IL) (hL : L.length <= 1048576) (hL2 : ∀ l ∈ L, l.length <= 1048576) (Q) (hq : Q (RA.ret (.sl 1 L')) []) :
  CallA Try.prog 126 [.sl 1 L'] [] Q := by
 obtain ⟨A, hA⟩ : ∃ A, A = ar := ⟨_, rfl⟩;have hl : L'.length = L.length := by rw [hL']; simp
 refine Z5 Z0 hA Try.func126 rfl rfl rfl rfl rfl fun S hS => ?_;cbv;refine Zpi hS 3 1 rfl ?_;cbv;refine Zb hS ?_;refine Zgw (α := Int × Nat × List D) (fun x => { env := [(0, .sl 1 L'), (3, .o 0 1 x.2.1), (4, .v (.int .i64 x.1))], H := [.els 1 x.2.2], nt := 20, dfs := [] }) (fun x => L.length - x.2.1) (fun x => x.2.1 <= L.length /\ x.1 = x.2.1 /\ x.2.2 = L'.take x.2.1) (0, 0, []) ⟨Nat.zero_le _, rfl, rfl⟩ [0] ?_ ?_
 ·exact ⟨by decide, fun i hi => absurd hi (by simp), ⟨rfl, trivial⟩, ⟨rfl, rfl, rfl, trivial⟩, rfl, rfl⟩
 rintro ⟨i, k, es⟩ ⟨hk, hi, hes⟩
 replace hk : k <= L.length := hk
 replace hi : i = (k : Int) := hi
 replace hes : es = L'.take k := hes
 refine Zi Z0 hA hS ?_;cbv
 split
 ·rename_i hc
  cbv
  replace hi : i = (k : Int) := hi
  have hlt : k < L.length := by subst hA; simp [ar, Z25] at hc; omega
  obtain ⟨M, hM⟩ : ∃ M, M = (L[k]).map I := ⟨_, rfl⟩;have hMl : M.length <= 1048576 := by rw [hM, List.length_map]; exact hL2 _ (List.getElem_mem hlt)
  refine ⟨by subst hA; simp [ar]; omega, ⟨.sl 1 M, by subst hA; simp [ar, hL', hi, hlt, hM, IL], ?_⟩⟩;cbv;refine Z4 hS [.sl 1 M] [] [] rfl rfl rfl rfl rfl rfl rfl rfl (by decide) trivial (Zzh M hMl _ fun n hn => ?_);refine Zmh Z0 hA hS [1] ?_;cbv
  replace hi : i = (k : Int) := hi
  subst hA;refine ⟨hn, by simp [ar, hes]; omega, rfl, by simp [ar]; omega, Zdh (by simp [ar]; omega), (i + 1, k + 1, es ++ [.sl 1 M]), [3], ⟨by simp; omega, by simp; omega, ?_⟩, by simp; omega, ?_⟩
  ·simp only [hes];rw [List.take_add_one];simp [hL', hlt, hM, IL]
  ·exact ⟨by decide, fun i hi => absurd hi (by simp), ⟨rfl, trivial⟩, ⟨rfl, rfl, rfl, trivial⟩, rfl, rfl⟩
 ·rename_i hc
  cbv
  replace hi : i = (k : Int) := hi
  have hlt : k = L.length := by subst hA; simp [ar, Z25] at hc; omega
  have he : es = L' := by rw [hes, hlt, <- hl, List.take_length]
  subst hA;refine Z1w [0] ?_;simp only [fzG, fzH, Z7a, Z1m];refine ⟨?_, Z2 [] (by decide) (fun i hi => absurd hi (by simp)) (H' := []) (d' := .sl 1 L') trivial (by rw [he]; rfl) (Z1 hq)⟩;simp [ar, he]; omega
end Go.Proofs.Ytecfpfhkicapeaa

namespace Go.Proofs.Ytecfpfhkicapeaa
open Go Go.Abs Go.Proofs
def U (x : Int) : D := .v (.int .u64 x)
end Go.Proofs.Ytecfpfhkicapeaa

namespace Go.Proofs.Ytecfpfhkicapeaa
open Go Go.Abs Go.Proofs
def pot (x : Int) : Blk := .box (.agg [U x])
theorem Zws (n : Int) : 0 <= IntKind.u64.wrap n := by
 have : IntKind.u64.wrap n = n % 18446744073709551616 := rfl;rw [this]; exact Int.emod_nonneg _ (by decide)
theorem Zwt (x y : Int) : 0 <= ar.bits .xor .u64 x y := Zws _
theorem Zbu {n : Int} (h : -9223372036854775808 <= n /\ n <= 9223372036854775807) : ar.fits .i64 n := Zdh h
theorem Zvb {n : Int} (h : 0 <= n) : ar.nneg n := h
theorem step (x : Int) (Q) (hq : ∀ y x', 0 <= y -> Q (RA.ret (U y)) [pot x']) : CallA Try.prog 76 [.b 0 0] [pot x] Q := by
 obtain ⟨A, hA⟩ : ∃ A, A = ar := ⟨_, rfl⟩;refine Z5 Z0 hA Try.func76 rfl rfl rfl rfl rfl fun S hS => ?_;cbv;refine ⟨by subst hA; exact Zvb (by decide), by subst hA; exact Zvb (by decide), by subst hA; exact Zvb (by decide), Z1 (hq _ _ ?_)⟩;subst hA; exact Zwt _ _
theorem Zj0 (x most : Int) (hm : most <= 1000000000000) (Q) (hq : ∀ n x', 0 <= n -> (n <= most ∨ n = 0) -> Q (RA.ret (I n)) [pot x']) : CallA Try.prog 20 [.b 0 0, I most] [pot x] Q := by
 obtain ⟨A, hA⟩ : ∃ A, A = ar := ⟨_, rfl⟩;refine Z5 Z0 hA Try.func20 rfl rfl rfl rfl rfl fun S hS => ?_;cbv
 split
 ·cbv;exact Z1 (hq 0 x (by omega) (.inr rfl))
 ·rename_i hc
  cbv;refine Z4 hS [.b 0 0] [0] [pot x] rfl rfl rfl rfl rfl rfl rfl rfl (by decide) ⟨rfl, trivial⟩ (step x _ fun y x' hy => ?_);refine Z3 Z0 hA hS ?_;cbv;subst hA;have hlt : 1 <= most := by simp [ar, Z25] at hc; omega
  refine ⟨Zvb (by decide), Zbu (by simp [ar]; omega), by
   show IntKind.u64.wrap (most + 1) ≠ 0
   have : IntKind.u64.wrap (most + 1) = (most + 1) % 18446744073709551616 := rfl
   rw [this, Int.emod_eq_of_lt (by omega) (by omega)]; omega, Z1 (hq _ x' ?_ (.inl ?_))⟩
  all_goals
   have e : ar.wrap .i64 (ar.rem (ar.shift .shr .u64 y 11) (ar.wrap .u64 (ar.add most 1))) = (y.fdiv (2 ^ 11)).tmod (most + 1) := by
    have e1 : IntKind.u64.wrap (most + 1) = most + 1 := by
     have : IntKind.u64.wrap (most + 1) = (most + 1) % 18446744073709551616 := rfl;rw [this, Int.emod_eq_of_lt (by omega) (by omega)]
    have h1 : 0 <= y.fdiv (2 ^ 11) := Int.fdiv_nonneg hy (by decide);have h2 := Int.tmod_nonneg (most + 1) h1;have h3 := Int.tmod_lt_of_pos (y.fdiv (2 ^ 11)) (show 0 < most + 1 by omega);show IntKind.i64.wrap ((y.fdiv (2 ^ 11)).tmod (IntKind.u64.wrap (most + 1))) = _;rw [e1];exact Zdh ⟨by omega, by omega⟩
   have h1 : 0 <= y.fdiv (2 ^ 11) := Int.fdiv_nonneg hy (by decide);have h2 := Int.tmod_nonneg (most + 1) h1;have h3 := Int.tmod_lt_of_pos (y.fdiv (2 ^ 11)) (show 0 < most + 1 by omega)
   first
   | exact le_of_le_of_eq h2 e.symm
   | exact le_of_eq_of_le e (by omega)
theorem Zn3 (x least most : Int) (hm : -1000000000 <= least /\ least <= 1000000000 /\ -1000000000 <= most /\ most <= 1000000000) (Q) (hq : ∀ n x', least <= n -> (n <= most ∨ n = least) -> Q (RA.ret (I n)) [pot x']) : CallA Try.prog 73 [.b 0 0, I least, I most] [pot x] Q := by
 obtain ⟨A, hA⟩ : ∃ A, A = ar := ⟨_, rfl⟩;refine Z5 Z0 hA Try.func73 rfl rfl rfl rfl rfl fun S hS => ?_;cbv;refine ⟨by subst hA; exact Zbu (by simp [ar]; omega), ?_⟩;refine Z4 hS [.b 0 0, I (A.sub most least)] [0] [pot x] rfl rfl rfl rfl rfl rfl rfl rfl (by decide) ⟨rfl, trivial⟩ (Zj0 x _ (by subst hA; simp [ar]; omega) _ fun n x' h1 h2 => ?_);refine Z3 Z0 hA hS ?_;cbv;subst hA
 replace h1 : 0 <= n := h1
 replace h2 : n <= most - least ∨ n = 0 := h2
 exact ⟨Zbu (by simp [ar]; omega), Z1 (hq (least + n) x' (by omega) (by omega))⟩
theorem Zvc (x n m : Int) (hm : 0 <= m /\ m <= 1000000000) (Q) (hq : ∀ b x', Q (RA.ret (.v (.bool b))) [pot x']) : CallA Try.prog 63 [.b 0 0, I n, I m] [pot x] Q := by
 obtain ⟨A, hA⟩ : ∃ A, A = ar := ⟨_, rfl⟩;refine Z5 Z0 hA Try.func63 rfl rfl rfl rfl rfl fun S hS => ?_;cbv;refine ⟨by subst hA; exact Zbu (by simp [ar]; omega), ?_⟩;refine Z4 hS [.b 0 0, I (A.sub m 1)] [0] [pot x] rfl rfl rfl rfl rfl rfl rfl rfl (by decide) ⟨rfl, trivial⟩ (Zj0 x _ (by subst hA; simp [ar]; omega) _ fun n x' h1 h2 => ?_);refine Z3 Z0 hA hS ?_;cbv;exact Z1 (hq _ x')
theorem of_ (x : Int) (L : List D) (l : List Int) (hL : L = l.map I) (hl : l.length <= 1000) (hl0 : l ≠ []) (Q) (hq : ∀ n x', n ∈ l -> Q (RA.ret (I n)) [pot x']) : CallA Try.prog 64 [.b 0 0, .sl 1 L] [pot x] Q := by
 obtain ⟨A, hA⟩ : ∃ A, A = ar := ⟨_, rfl⟩;have hlen : L.length = l.length := by rw [hL]; simp
 have hpos : 0 < l.length := List.length_pos_iff.2 hl0;refine Z5 Z0 hA Try.func64 rfl rfl rfl rfl rfl fun S hS => ?_;cbv
 split
 ·rename_i hc
  exfalso; subst hA
  replace hc : ((L.length : Int) == 0) = true := hc
  have := eq_of_beq hc;omega
 ·cbv;refine ⟨by subst hA; exact Zbu (n := (L.length : Int) - 1) (by omega), ?_⟩;refine Z4 hS [.b 0 0, I (A.sub (A.oi (A.len L)) 1)] [0] [pot x] rfl rfl rfl rfl rfl rfl rfl rfl (by decide) ⟨rfl, trivial⟩ (Zj0 x _ (by subst hA; show (L.length : Int) - 1 <= _; omega) _ fun n x' h1 h2 => ?_);refine Z3 Z0 hA hS ?_;cbv;have h2' : n < l.length := by
   subst hA
   replace h2 : n <= (L.length : Int) - 1 ∨ n = 0 := h2
   omega
  replace h1 : 0 <= n := h1
  obtain ⟨k, rfl⟩ := Int.eq_ofNat_of_zero_le h1;have hk : k < l.length := by omega
  obtain ⟨z, hz⟩ : ∃ z, z = l[k] := ⟨_, rfl⟩;refine ⟨by subst hA; show 0 <= (k : Int) /\ (k : Int) < (L.length : Nat); omega, ⟨I z, by subst hA; simp [ar, hL, hk, hz], ?_⟩⟩;cbv;exact Z1 (hq _ x' (hz ▸ List.getElem_mem hk))
end Go.Proofs.Ytecfpfhkicapeaa

namespace Go.Proofs.Ytecfpfhkicapeaa
open Go Go.Abs Go.Proofs
theorem Zwu (x n least most wide : Int) (hn : -100000 <= least /\ least <= n /\ n <= most /\ most <= 100000) (hw : 0 <= wide /\ wide <= 100000) (Q)
  (hq : ∀ lo hi x', least <= lo -> lo <= n -> n <= hi -> hi <= most -> (wide = 0 -> lo = n /\ hi = n) -> Q (RA.ret (.agg [I lo, I hi])) [pot x']) :
  CallA Try.prog 74 [.b 0 0, I n, I least, I most, I wide] [pot x] Q := by
 obtain ⟨A, hA⟩ : ∃ A, A = ar := ⟨_, rfl⟩;refine Z5 Z0 hA Try.func74 rfl rfl rfl rfl rfl fun S hS => ?_;cbv;refine Z4 hS [.b 0 0, I wide] [0] [pot x] rfl rfl rfl rfl rfl rfl rfl rfl (by decide) ⟨rfl, trivial⟩ (Zj0 x _ (by omega) _ fun a xa ha1 ha2 => ?_);refine Z3 Z0 hA hS ?_;cbv;refine Z26 hS (Z1a hA [2] ?_);cbv;refine ⟨by subst hA; rfl, Z7 ?_⟩;refine Z4 hS [.b 0 0, .sl 1 [I 0, I 0, I a]] [0] [pot xa] rfl rfl rfl rfl rfl rfl rfl rfl (by decide) ⟨rfl, trivial⟩ (of_ xa _ [0, 0, a] rfl (Nat.le_of_ble_eq_true rfl) (by simp) _ fun o xo ho => ?_);have ho' : 0 <= o /\ (o <= wide ∨ o = 0) := by simp at ho; omega
 refine Z3 Z0 hA hS ?_;cbv;refine ⟨by subst hA; exact Zbu (n := n - o) (by omega), ?_⟩;refine Z4 hS [.b 0 0, I wide] [0] [pot xo] rfl rfl rfl rfl rfl rfl rfl rfl (by decide) ⟨rfl, trivial⟩ (Zj0 xo _ (by omega) _ fun c xc hc1 hc2 => ?_);refine Z3 Z0 hA hS ?_;cbv;refine Z26 hS (Z1a hA [3] ?_);cbv;refine ⟨by subst hA; rfl, Z7 ?_⟩;refine Z4 hS [.b 0 0, .sl 1 [I 0, I 0, I c]] [0] [pot xc] rfl rfl rfl rfl rfl rfl rfl rfl (by decide) ⟨rfl, trivial⟩ (of_ xc _ [0, 0, c] rfl (Nat.le_of_ble_eq_true rfl) (by simp) _ fun p xp hp => ?_);have hp' : 0 <= p /\ (p <= wide ∨ p = 0) := by simp at hp; omega
 refine Z3 Z0 hA hS ?_;cbv;subst hA;refine ⟨Zbu (n := n + p) (by omega), Z2 [0] (by decide) (by decide) (H' := [pot xp]) (d' := .agg [I (if n - o > least then n - o else least), I (if n + p < most then n + p else most)]) ⟨rfl, trivial⟩ rfl (Z1 (hq _ _ xp ?_ ?_ ?_ ?_ (fun h => ⟨?_, ?_⟩)))⟩
 all_goals split <;> omega
end Go.Proofs.Ytecfpfhkicapeaa

namespace Go.Proofs.Ytecfpfhkicapeaa
open Go Go.Abs Go.Proofs
theorem Zal {α : Type} {l : List α} {k : Nat} {x : α} (h : l[k]? = some x) : l.drop k = x :: l.drop (k + 1) := by
 obtain ⟨h1, rfl⟩ := List.getElem?_eq_some_iff.1 h;exact List.drop_eq_getElem_cons h1
section
variable {A : Ar} (hA : A = ar)
 include hA
theorem Z5a {l : List D} {n : Nat} (e : l.length = n) : A.oi (A.len l) = (n : Int) := by subst hA; subst e; rfl
theorem Zy6 {l : List D} {n : Nat} {x : Int} (e : l.length = n) (c : A.cmp .eql (A.oi (A.len l)) x = true) : (n : Int) = x := (Z5a hA e).symm.trans (xeq hA c)
theorem Zwe {l : List D} {n : Nat} {x : Int} (e : l.length = n) (c : A.cmp .eql (A.oi (A.len l)) x = false) : (n : Int) ≠ x := fun h => Z2o hA c ((Z5a hA e).trans h)
theorem Zvd {l : List D} {n : Nat} {x : Int} (e : l.length = n) (c : A.cmp .gtr (A.oi (A.len l)) x = true) : x < (n : Int) := (Z5a hA e) ▸ xgt hA c
theorem Zhd {l : List D} {n : Nat} {x : Int} (e : l.length = n) (c : A.cmp .gtr (A.oi (A.len l)) x = false) : (n : Int) <= x := (Z5a hA e) ▸ Zax hA c
theorem Zge {b : Bool} (h : A.bnot b = true) : b = false := by subst hA; simpa [ar] using h
theorem Zb8 {b : Bool} (h : A.bnot b = false) : b = true := by subst hA; simpa [ar] using h
end
theorem Z33 {A : Ar} (hA : A = ar) (l r : List D) : A.app l r = l ++ r := by subst hA; rfl
theorem Z27 {A : Ar} (hA : A = ar) {k b : Nat} (hk : k <= 1000000) (hb : b <= 1000) : A.room (A.addN k 1) b := by
 subst hA;have : (k + 1) * b <= 1000001 * 1000 := Nat.mul_le_mul (by omega) hb;exact ⟨by show (k + 1) * b <= 140737488355328; omega, by show k + 1 <= 4611686018427387904; omega⟩
theorem Ze {A : Ar} (hA : A = ar) {l : List D} {n : Nat} (h : l.length = n) : A.eqN n (A.len l) := by subst hA; exact h.symm
end Go.Proofs.Ytecfpfhkicapeaa

namespace Go.Proofs.Ytecfpfhkicapeaa
open Go Go.Abs Go.Proofs Go.Batch
def mvD (m : Mv) : D := .agg [I m.kind, I m.bin, I m.inst, I m.lo, I m.hi]
def Zv (b : Bool) : D := .v (.bool b)
theorem Zb9 (n lo hi : Int) (b : Bool) (hb : b = decide (lo <= n /\ n <= hi)) (Q) (hq : Q (RA.ret (.v (.bool b))) []) : CallA Try.prog 98 [I n, I lo, I hi] [] Q := by
 subst hb;obtain ⟨A, hA⟩ : ∃ A, A = ar := ⟨_, rfl⟩;refine Z5 Z0 hA Try.func98 rfl rfl rfl rfl rfl fun S hS => ?_;cbv
 split
 ·rename_i h; cbv
  have h' : lo <= n := by subst hA; simpa [ar, Z25] using h
  have e : ar.cmp .leq n hi = decide (lo <= n /\ n <= hi) := by simp [ar, Z25, h']
  subst hA;rw [<- e] at hq;exact Z1 hq
 ·rename_i h; cbv
  have h' : ¬ lo <= n := by subst hA; simpa [ar, Z25] using h
  have e : decide (lo <= n /\ n <= hi) = false := by simp [h']
  rw [e] at hq;exact Z1 hq
set_option maxRecDepth 20000 in
set_option maxHeartbeats 2000000 in
theorem Zn4 (j : Jn) (hi : 1 <= j.ins /\ j.ins <= 4) (hf : j.first.length <= 1152921504606846976) (m : Mv) (FL ML : List D) (hF : FL = j.first.map Zv) (n : Int) (hn : n = Z2q j m) (Q) (hq : Q (RA.ret (I n)) []) :
  CallA Try.prog 105 [.agg [I j.ins, .sl 1 FL, .sl 5 ML], .agg [I m.kind, I m.bin, I m.inst, I m.lo, I m.hi]] [] Q := by
 obtain ⟨A, hA⟩ : ∃ A, A = ar := ⟨_, rfl⟩;have hFl : FL.length = j.first.length := by rw [hF]; simp
 obtain ⟨b1, hb1⟩ : ∃ x, x = decide (1 <= m.kind /\ m.kind <= 3) := ⟨_, rfl⟩;obtain ⟨b2, hb2⟩ : ∃ x, x = decide (0 <= m.bin /\ m.bin <= (j.first.length : Int) - 1) := ⟨_, rfl⟩;have hb2' : b2 = decide (0 <= m.bin /\ m.bin <= A.sub (A.oi (A.len FL)) 1) := by rw [Z24 hA, Z5a hA hFl]; exact hb2
 obtain ⟨b3, hb3⟩ : ∃ x, x = decide (-1 <= m.inst /\ m.inst <= j.ins - 1) := ⟨_, rfl⟩;have hb3' : b3 = decide (-1 <= m.inst /\ m.inst <= A.sub j.ins 1) := by rw [Z24 hA]; exact hb3
 obtain ⟨b4, hb4⟩ : ∃ x, x = decide (0 <= m.lo /\ m.lo <= 5) := ⟨_, rfl⟩;obtain ⟨b5, hb5⟩ : ∃ x, x = decide (0 <= m.hi /\ m.hi <= 5) := ⟨_, rfl⟩;have f1 : A.fits .i64 (A.sub (A.oi (A.len FL)) 1) := Z14 hA (by rw [Z24 hA, Z5a hA hFl]) (by omega);have f2 : A.fits .i64 (A.sub j.ins 1) := Z14 hA (Z24 hA j.ins 1) (by omega);unfold Z2q at hn;refine Z5 Z0 hA Try.func105 rfl rfl rfl rfl rfl fun S hS => ?_;cbv;refine Z4 hS [I m.kind, I 1, I 3] [] [] rfl rfl rfl rfl rfl rfl rfl rfl (by decide) trivial (Zb9 _ _ _ b1 hb1 _ ?_);refine Z3 Z0 hA hS ?_;cbv;refine bm (fun c1 => ?_) (fun c1 => ?_)
 ·have hz : n = 8 := by rw [hn, if_pos]; have := Zge hA c1; rw [this] at hb1; exact of_decide_eq_false hb1.symm
  rw [hz] at hq;cbv;exact Z2 [] (by decide) Z9 (H' := []) (d' := I 8) trivial rfl (Z1 hq)
 have d1 := Zb8 hA c1;rw [d1] at hb1;rw [if_neg (fun h => h (of_decide_eq_true hb1.symm))] at hn;cbv;refine ⟨f1, ?_⟩;refine Z4 hS [I m.bin, I 0, I (A.sub (A.oi (A.len FL)) 1)] [] [] rfl rfl rfl rfl rfl rfl rfl rfl (by decide) trivial (Zb9 _ _ _ b2 hb2' _ ?_);refine Z3 Z0 hA hS ?_;cbv;refine bm (fun c2 => ?_) (fun c2 => ?_)
 ·have hz : n = 3 := by rw [hn, if_pos]; have := Zge hA c2; rw [this] at hb2; exact of_decide_eq_false hb2.symm
  rw [hz] at hq;cbv;exact Z2 [] (by decide) Z9 (H' := []) (d' := I 3) trivial rfl (Z1 hq)
 have d2 := Zb8 hA c2;rw [d2] at hb2;rw [if_neg (fun h => h (of_decide_eq_true hb2.symm))] at hn;have tail : m.kind = 2 /\ b3 = true ∨ m.kind ≠ 2 -> (m.kind ≠ 2 -> m.inst = 0) -> n = if ¬ (0 <= m.lo /\ m.lo <= 5) ∨ ¬ (0 <= m.hi /\ m.hi <= 5) then 1 else if m.hi < m.lo then 5 else 0 := fun h1 h2 => by
  rw [hn, if_neg, if_neg]
  ·rintro ⟨h3, h4⟩; exact h4 (h2 h3)
  ·rintro ⟨h3, h4⟩;rcases h1 with ⟨-, h1⟩ | h1
   ·rw [h1] at hb3; exact h4 (of_decide_eq_true hb3.symm)
   ·exact h1 h3
 have t1 : n = (if ¬ (0 <= m.lo /\ m.lo <= 5) ∨ ¬ (0 <= m.hi /\ m.hi <= 5) then 1 else if m.hi < m.lo then 5 else 0) -> b4 = false -> n = 1 := fun h e => by
  rw [h, if_pos]; rw [e] at hb4; exact .inl (of_decide_eq_false hb4.symm)
 have t2 : n = (if ¬ (0 <= m.lo /\ m.lo <= 5) ∨ ¬ (0 <= m.hi /\ m.hi <= 5) then 1 else if m.hi < m.lo then 5 else 0) -> b5 = false -> n = 1 := fun h e => by
  rw [h, if_pos]; rw [e] at hb5; exact .inr (of_decide_eq_false hb5.symm)
 have t3 : n = (if ¬ (0 <= m.lo /\ m.lo <= 5) ∨ ¬ (0 <= m.hi /\ m.hi <= 5) then 1 else if m.hi < m.lo then 5 else 0) -> b4 = true -> b5 = true -> n = if m.hi < m.lo then 5 else 0 := fun h e e' => by
  rw [h, if_neg]; rw [e] at hb4; rw [e'] at hb5;rintro (h | h)
  ·exact h (of_decide_eq_true hb4.symm)
  ·exact h (of_decide_eq_true hb5.symm)
 cbv;refine bm (fun c3 => ?_) (fun c3 => ?_)
 ·have k2 : m.kind = 2 := xeq hA c3;have kn : A.cmp .neq m.kind 2 = false := by subst hA; simp [ar, Z25, k2]
  cbv;refine ⟨f2, ?_⟩;refine Zg hS rfl rfl rfl rfl rfl rfl rfl rfl (fun _ => ⟨_, _, [I m.inst, I (-1), I (A.sub j.ins 1)], [], [], rfl, rfl, rfl, by decide, trivial, Zb9 _ _ _ b3 hb3' _ ?_⟩) (fun e => absurd rfl e);refine Z3 Z0 hA hS ?_;cbv;refine bm (fun c4 => ?_) (fun c4 => ?_)
  ·have hz : n = 3 := by rw [hn, if_pos]; have := Zge hA c4; rw [this] at hb3; exact ⟨k2, of_decide_eq_false hb3.symm⟩
   rw [hz] at hq;cbv;exact Z2 [] (by decide) Z9 (H' := []) (d' := I 3) trivial rfl (Z1 hq)
  have hn2 := tail (.inl ⟨k2, Zb8 hA c4⟩) (fun h => absurd k2 h);cbv;refine bm (fun c => Bool.noConfusion (kn.symm.trans c)) (fun _ => ?_);cbv;refine Z4 hS [I m.lo, I 0, I 5] [] [] rfl rfl rfl rfl rfl rfl rfl rfl (by decide) trivial (Zb9 _ _ _ b4 hb4 _ ?_);refine Z3 Z0 hA hS ?_;cbv;refine bm (fun c5 => ?_) (fun c5 => ?_)
  ·have hz := t1 hn2 (Zge hA c5);rw [hz] at hq;cbv;refine Zg (f := 0) hS rfl rfl rfl rfl rfl rfl rfl rfl (fun e => Bool.noConfusion e) (fun _ => ?_);refine Z3 Z0 hA hS ?_;cbv;exact Z2 [] (by decide) Z9 (H' := []) (d' := I 1) trivial rfl (Z1 hq)
  cbv;refine Zg hS rfl rfl rfl rfl rfl rfl rfl rfl (fun _ => ⟨_, _, [I m.hi, I 0, I 5], [], [], rfl, rfl, rfl, by decide, trivial, Zb9 _ _ _ b5 hb5 _ ?_⟩) (fun e => absurd rfl e);refine Z3 Z0 hA hS ?_;cbv;refine bm (fun c6 => ?_) (fun c6 => ?_)
  ·have hz := t2 hn2 (Zge hA c6);rw [hz] at hq;cbv;exact Z2 [] (by decide) Z9 (H' := []) (d' := I 1) trivial rfl (Z1 hq)
  have hn3 := t3 hn2 (Zb8 hA c5) (Zb8 hA c6);cbv;refine bm (fun c7 => ?_) (fun c7 => ?_)
  ·have hz : n = 5 := by rw [hn3, if_pos (xgt hA c7)]
   rw [hz] at hq;cbv;exact Z2 [] (by decide) Z9 (H' := []) (d' := I 5) trivial rfl (Z1 hq)
  ·have hz : n = 0 := by rw [hn3, if_neg (Int.not_lt.2 (Zax hA c7))]
   rw [hz] at hq;cbv;exact Z2 [] (by decide) Z9 (H' := []) (d' := I 0) trivial rfl (Z1 hq)
 ·have k2 : m.kind ≠ 2 := Z2o hA c3;have kn : A.cmp .neq m.kind 2 = true := by subst hA; simp [ar, Z25, k2]
  cbv;refine Zg (f := 0) hS rfl rfl rfl rfl rfl rfl rfl rfl (fun e => Bool.noConfusion e) (fun _ => ?_);refine Z3 Z0 hA hS ?_;cbv;refine bm (fun _ => ?_) (fun c => Bool.noConfusion (kn.symm.trans c));cbv;refine bm (fun c4 => ?_) (fun c4 => ?_)
  ·have hz : n = 1 := by rw [hn, if_neg (fun h => k2 h.1), if_pos ⟨k2, xne hA c4⟩]
   rw [hz] at hq;cbv;exact Z2 [] (by decide) Z9 (H' := []) (d' := I 1) trivial rfl (Z1 hq)
  have hn2 := tail (.inr k2) (fun _ => Z4t hA c4);cbv;refine Z4 hS [I m.lo, I 0, I 5] [] [] rfl rfl rfl rfl rfl rfl rfl rfl (by decide) trivial (Zb9 _ _ _ b4 hb4 _ ?_);refine Z3 Z0 hA hS ?_;cbv;refine bm (fun c5 => ?_) (fun c5 => ?_)
  ·have hz := t1 hn2 (Zge hA c5);rw [hz] at hq;cbv;refine Zg (f := 0) hS rfl rfl rfl rfl rfl rfl rfl rfl (fun e => Bool.noConfusion e) (fun _ => ?_);refine Z3 Z0 hA hS ?_;cbv;exact Z2 [] (by decide) Z9 (H' := []) (d' := I 1) trivial rfl (Z1 hq)
  cbv;refine Zg hS rfl rfl rfl rfl rfl rfl rfl rfl (fun _ => ⟨_, _, [I m.hi, I 0, I 5], [], [], rfl, rfl, rfl, by decide, trivial, Zb9 _ _ _ b5 hb5 _ ?_⟩) (fun e => absurd rfl e);refine Z3 Z0 hA hS ?_;cbv;refine bm (fun c6 => ?_) (fun c6 => ?_)
  ·have hz := t2 hn2 (Zge hA c6);rw [hz] at hq;cbv;exact Z2 [] (by decide) Z9 (H' := []) (d' := I 1) trivial rfl (Z1 hq)
  have hn3 := t3 hn2 (Zb8 hA c5) (Zb8 hA c6);cbv;refine bm (fun c7 => ?_) (fun c7 => ?_)
  ·have hz : n = 5 := by rw [hn3, if_pos (xgt hA c7)]
   rw [hz] at hq;cbv;exact Z2 [] (by decide) Z9 (H' := []) (d' := I 5) trivial rfl (Z1 hq)
  ·have hz : n = 0 := by rw [hn3, if_neg (Int.not_lt.2 (Zax hA c7))]
   rw [hz] at hq;cbv;exact Z2 [] (by decide) Z9 (H' := []) (d' := I 0) trivial rfl (Z1 hq)
end Go.Proofs.Ytecfpfhkicapeaa

namespace Go.Proofs.Ytecfpfhkicapeaa
open Go Go.Abs Go.Proofs Go.Batch
theorem Zcs {j : Jn} {l : List Mv} {k c : Nat} {m : Mv} (h : l[k]? = some m) : Z3b j (l.drop k) c = if Z2q j m ≠ 0 then Z2q j m else if 4 < (if m.kind = 1 then c + 1 else c) then 6 else Z3b j (l.drop (k + 1)) (if m.kind = 1 then c + 1 else c) := by
 rw [Zal h]; rfl
set_option maxRecDepth 20000 in
set_option maxHeartbeats 2000000 in
theorem Zbv (j : Jn) (hf : j.first.length <= 1152921504606846976) (hm : j.moves.length <= 1152921504606846976) (FL ML : List D) (hF : FL = j.first.map Zv) (hM : ML = j.moves.map mvD) (n : Int) (hn : n = checkJ j) (Q) (hq : Q (RA.ret (I n)) []) :
  CallA Try.prog 49 [.agg [I j.ins, .sl 1 FL, .sl 5 ML]] [] Q := by
 obtain ⟨A, hA⟩ : ∃ A, A = ar := ⟨_, rfl⟩;have hFl : FL.length = j.first.length := by rw [hF]; simp
 have hMl : ML.length = j.moves.length := by rw [hM]; simp
 obtain ⟨b1, hb1⟩ : ∃ x, x = decide (1 <= j.ins /\ j.ins <= 4) := ⟨_, rfl⟩;unfold checkJ at hn;refine Z5 Z0 hA Try.func49 rfl rfl rfl rfl rfl fun S hS => ?_;cbv;refine Z4 hS [I j.ins, I 1, I 4] [] [] rfl rfl rfl rfl rfl rfl rfl rfl (by decide) trivial (Zb9 _ _ _ b1 hb1 _ ?_);refine Z3 Z0 hA hS ?_;cbv;refine bm (fun c1 => ?_) (fun c1 => ?_)
 ·have hz : n = 1 := by rw [hn, if_pos]; have := Zge hA c1; rw [this] at hb1; exact of_decide_eq_false hb1.symm
  rw [hz] at hq;cbv;exact Z2 [] (by decide) Z9 (H' := []) (d' := I 1) trivial rfl (Z1 hq)
 have d1 := Zb8 hA c1;rw [d1] at hb1;have hi := of_decide_eq_true hb1.symm;rw [if_neg (fun h => h hi)] at hn;cbv;refine bm (fun c2 => ?_) (fun c2 => ?_)
 ·have hz : n = 7 := by rw [hn, if_pos]; have h : (j.first.length : Int) = 0 := Zy6 hA hFl c2; omega
  rw [hz] at hq;cbv;exact Z2 [] (by decide) Z9 (H' := []) (d' := I 7) trivial rfl (Z1 hq)
 rw [if_neg (by have h : (j.first.length : Int) ≠ 0 := Zwe hA hFl c2; omega)] at hn;cbv;refine bm (fun c3 => ?_) (fun c3 => ?_)
 ·have hz : n = 6 := by rw [hn, if_pos]; have h : (2 : Int) < (j.first.length : Int) := Zvd hA hFl c3; omega
  rw [hz] at hq;cbv;exact Z2 [] (by decide) Z9 (H' := []) (d' := I 6) trivial rfl (Z1 hq)
 have g3 : (j.first.length : Int) <= 2 := Zhd hA hFl c3;cbv;refine bm (fun c4 => ?_) (fun c4 => ?_)
 ·have hz : n = 6 := by rw [hn, if_pos]; have h : (10 : Int) < (j.moves.length : Int) := Zvd hA hMl c4; omega
  rw [hz] at hq;cbv;exact Z2 [] (by decide) Z9 (H' := []) (d' := I 6) trivial rfl (Z1 hq)
 have g4 : (j.moves.length : Int) <= 10 := Zhd hA hMl c4;have g3' : (j.first.length : Int) <= 2 := g3;have hn0 : n = Z3b j (j.moves.drop 0) 0 := by rw [hn, if_neg (by omega)]; rfl
 cbv;refine Zb hS ?_;refine Za (α := Int × Nat × Int × Nat) (fun q => { env := [(1, .b 0 0), (3, I q.2.2.1), (29, .sl 5 ML), (30, I (A.oi (A.len ML))), (31, I q.1)], H := [.box (.agg [I j.ins, .sl 1 FL, .sl 5 ML])], nt := 49, dfs := [] })
  (fun q => j.moves.length - q.2.1) (fun q => q.2.1 <= j.moves.length /\ IsI q.1 q.2.1 /\ IsI q.2.2.1 q.2.2.2 /\ q.2.2.2 <= 4 /\ n = Z3b j (j.moves.drop q.2.1) q.2.2.2) (0, 0, 0, 0) ⟨Nat.zero_le _, ⟨rfl⟩, ⟨rfl⟩, Nat.zero_le _, hn0⟩ ?_ ?_
 ·exact Zf [0] ⟨by decide, Z9, ⟨rfl, trivial⟩, ⟨rfl, rfl, rfl, rfl, rfl, trivial⟩, rfl, rfl⟩
 rintro ⟨i, k, bi, c⟩ ⟨u1, u2, u3, u4, u5⟩;dsimp only at u1 u2 u3 u4 u5;refine Zi Z0 hA hS ?_;cbv;refine bm (fun e => ?_) (fun e => ?_)
 ·have hk : k < j.moves.length := Z31 hA hMl u2 e;obtain ⟨m, hmk⟩ : ∃ m, j.moves[k]? = some m := ⟨_, List.getElem?_eq_getElem hk⟩;have hMk : ML[k]? = some (.agg [I m.kind, I m.bin, I m.inst, I m.lo, I m.hi]) := by rw [hM]; simp [hmk, mvD]
  rw [Zcs hmk] at u5;have hin := Z1b hA hMl u2 hk;have hg := Z18 hA u2 hMk;have hf1 := Zy hA u2 (by omega);have hu2 := Zz hA u2;have hb1f := Zy hA u3 (by omega);have hu3 := Zz hA u3;have hms : j.moves.length - (k + 1) < j.moves.length - k := by omega
  obtain ⟨e1, he1⟩ : ∃ e1, e1 = Z2q j m := ⟨_, rfl⟩;rw [<- he1] at u5;cbv;refine ⟨hin, ⟨_, hg, ?_⟩⟩;cbv;refine Z4 hS [.agg [I j.ins, .sl 1 FL, .sl 5 ML], .agg [I m.kind, I m.bin, I m.inst, I m.lo, I m.hi]] [] [] rfl rfl rfl rfl rfl rfl rfl rfl (by decide) trivial (Zn4 j hi hf m FL ML hF e1 he1 _ ?_);refine Z3 Z0 hA hS ?_;cbv;refine bm (fun c5 => ?_) (fun c5 => ?_)
  ·have hz : n = e1 := by rw [u5, if_pos (xne hA c5)]
   rw [hz] at hq;cbv;refine Z7 ?_;cbv;exact Z2 [] (by decide) Z9 (H' := []) (d' := I e1) trivial rfl (Z1 hq)
  rw [if_neg (fun h => h (Z4t hA c5))] at u5;cbv;refine bm (fun c6 => ?_) (fun c6 => ?_)
  ·rw [if_pos (xeq hA c6)] at u5;cbv;refine ⟨hb1f, ?_⟩;cbv;refine bm (fun c7 => ?_) (fun c7 => ?_)
   ·have hz : n = 6 := by rw [u5, if_pos (by have h1 : (4 : Int) < A.add bi 1 := xgt hA c7; have h2 : A.add bi 1 = ((c + 1 : Nat) : Int) := hu3.eq; omega)]
    rw [hz] at hq;cbv;refine Z7 ?_;cbv;exact Z2 [] (by decide) Z9 (H' := []) (d' := I 6) trivial rfl (Z1 hq)
   ·have h5 : c + 1 <= 4 := by have h1 : A.add bi 1 <= (4 : Int) := Zax hA c7; have h2 : A.add bi 1 = ((c + 1 : Nat) : Int) := hu3.eq; omega
    rw [if_neg (by omega)] at u5;cbv;refine ⟨hf1, ?_⟩;refine Z8 (A.add i 1, k + 1, A.add bi 1, c + 1) [0] ⟨hk, hu2, hu3, h5, u5⟩ hms ?_;exact ⟨by decide, Z9, ⟨rfl, trivial⟩, ⟨rfl, rfl, rfl, rfl, rfl, trivial⟩, rfl, rfl⟩
  ·rw [if_neg (Z2o hA c6)] at u5;cbv;refine bm (fun c7 => ?_) (fun c7 => ?_)
   ·exfalso; have h1 := xgt hA c7; have h2 := u3.eq; omega
   ·rw [if_neg (by omega)] at u5;cbv;refine ⟨hf1, ?_⟩;refine Z8 (A.add i 1, k + 1, bi, c) [0] ⟨hk, hu2, u3, u4, u5⟩ hms ?_;exact ⟨by decide, Z9, ⟨rfl, trivial⟩, ⟨rfl, rfl, rfl, rfl, rfl, trivial⟩, rfl, rfl⟩
 ·have hk : j.moves.length <= k := Z21 hA hMl u2 e;have hz : n = 0 := by rw [u5, List.drop_eq_nil_of_le hk]; rfl
  rw [hz] at hq;cbv;refine Z7 ?_;cbv;exact Z2 [] (by decide) Z9 (H' := []) (d' := I 0) trivial rfl (Z1 hq)
def Zn5 (c : List D) : Prop := c = [] ∨ (∃ x, c = [.cb x 0]) ∨ ∃ x y, c = [.cb x 0, .cb y 0]
theorem Z65 {ms : List Mv} {k : Nat} {m : Mv} (h : ms[k]? = some m) : Z6 (ms.take (k + 1)) = if m.kind = 1 then Z6 (ms.take k) ++ [m.bin] else Z6 (ms.take k) := by
 rw [List.take_add_one, h];unfold Z6;simp only [Option.toList_some, List.filter_append, List.map_append]
 split
 ·rename_i e; simp [List.filter_cons, e]
 ·rename_i e; simp [List.filter_cons, e]
theorem Z6e (ms : List Mv) (k : Nat) : (Z6 (ms.take k)).length <= k := by
 unfold Z6;rw [List.length_map];have := List.length_filter_le (fun m : Mv => decide (m.kind = 1)) (ms.take k);rw [List.length_take] at this; omega
set_option maxRecDepth 20000 in
set_option maxHeartbeats 2000000 in
theorem Zhe (j : Jn) (hm : j.moves.length <= 1000) (FL ML : List D) (hM : ML = j.moves.map mvD) (f : FuncId) (caps : List D) (hc : Zn5 caps) (Q) (hq : ∀ BL, BL = (Z6 j.moves).map I -> Q (RA.ret (.agg [I j.ins, .sl 1 FL, .sl 5 ML, .sl 1 BL, .fn f caps])) []) :
  CallA Try.prog 86 [.agg [I j.ins, .sl 1 FL, .sl 5 ML], .fn f caps] [] Q := by
 obtain ⟨A, hA⟩ : ∃ A, A = ar := ⟨_, rfl⟩;have hMl : ML.length = j.moves.length := by rw [hM]; simp
 rcases hc with rfl | ⟨cx, rfl⟩ | ⟨cx, cy, rfl⟩
 all_goals
  refine Z5 Z0 hA Try.func86 rfl rfl rfl rfl rfl fun S hS => ?_;cbv;refine Zb hS ?_;refine Za (α := Int × Nat × Nat × List D) ((fun (cp : List D) q => { env := [(1, .fn f cp), (4, .b 1 0), (5, .b 2 0), (12, .sl 5 ML), (13, I (A.oi (A.len ML))), (14, I q.1)], H := [.box (.agg [I j.ins, .sl 1 FL, .sl 5 ML]), .box (.agg [I 0, .v (.slice none 0 0), .v (.slice none 0 0), .v (.slice none 0 0), .v .nilFunc]), .box (.agg [I j.ins, .sl 1 FL, .sl 5 ML, .o 3 1 q.2.2.1, .fn f cp]), .els 1 q.2.2.2], nt := 30, dfs := [] }) (by first | exact [.cb cx 0, .cb cy 0] | exact [.cb cx 0] | exact []))
   (fun q => j.moves.length - q.2.1) (fun q => q.2.1 <= j.moves.length /\ IsI q.1 q.2.1 /\ q.2.2.1 = (Z6 (j.moves.take q.2.1)).length /\ q.2.2.2 = (Z6 (j.moves.take q.2.1)).map I) (0, 0, 0, []) ⟨Nat.zero_le _, ⟨rfl⟩, rfl, rfl⟩ (by
    refine Zfk 2 3 1 (.agg [I j.ins, .sl 1 FL, .sl 5 ML, .o 3 1 0, .fn f _]) rfl rfl rfl ?_
    exact Zf [0, 1, 2, 3] ⟨by decide, Z9, ⟨rfl, rfl, rfl, rfl, trivial⟩, ⟨rfl, rfl, rfl, rfl, rfl, rfl, trivial⟩, rfl, rfl⟩) ?_
  rintro ⟨i, k, n0, L⟩ ⟨u1, u2, u3, u4⟩;dsimp only at u1 u2 u3 u4;refine Zi Z0 hA hS ?_;cbv;refine bm (fun e => ?_) (fun e => ?_)
  ·have hk : k < j.moves.length := Z31 hA hMl u2 e;obtain ⟨m, hmk⟩ : ∃ m, j.moves[k]? = some m := ⟨_, List.getElem?_eq_getElem hk⟩;have hMk : ML[k]? = some (.agg [I m.kind, I m.bin, I m.inst, I m.lo, I m.hi]) := by rw [hM]; simp [hmk, mvD]
   have hbt := Z65 hmk;have hbl := Z6e j.moves k;have hin := Z1b hA hMl u2 hk;have hg := Z18 hA u2 hMk;have hf1 := Zy hA u2 (by omega);have hu2 := Zz hA u2;have hLl : L.length = n0 := by rw [u4, u3]; simp
   have hn0 : n0 <= 1000000 := by omega
   have hms : j.moves.length - (k + 1) < j.moves.length - k := by omega
   cbv;refine ⟨hin, ⟨_, hg, ?_⟩⟩;cbv;refine bm (fun c6 => ?_) (fun c6 => ?_)
   ·rw [if_pos (xeq hA c6)] at hbt;have hL2 : A.app L [I m.bin] = (Z6 (j.moves.take (k + 1))).map I := by rw [Z33 hA, hbt, u4]; simp
    have hn2 : A.addN n0 1 = (Z6 (j.moves.take (k + 1))).length := by rw [Z2e hA, hbt, u3]; simp
    cbv;refine ⟨Ze hA hLl, Ze hA rfl, Z27 hA hn0 (by decide), hf1, ?_⟩;refine Z8 (A.add i 1, k + 1, A.addN n0 1, A.app L [I m.bin]) [0, 1, 2, 6] ⟨hk, hu2, hn2, hL2⟩ hms ?_;exact ⟨by decide, Z9, ⟨rfl, rfl, rfl, rfl, trivial⟩, ⟨rfl, rfl, rfl, rfl, rfl, rfl, trivial⟩, rfl, rfl⟩
   ·rw [if_neg (Z2o hA c6)] at hbt;rw [<- hbt] at u3 u4;cbv;refine ⟨hf1, ?_⟩;refine Z8 (A.add i 1, k + 1, n0, L) [0, 1, 2, 3] ⟨hk, hu2, u3, u4⟩ hms ?_;exact ⟨by decide, Z9, ⟨rfl, rfl, rfl, rfl, trivial⟩, ⟨rfl, rfl, rfl, rfl, rfl, rfl, trivial⟩, rfl, rfl⟩
  ·have hk : k = j.moves.length := by have := Z21 hA hMl u2 e; omega
   have hBL : L = (Z6 j.moves).map I := by rw [u4, hk, List.take_length]
   have hLl : L.length = n0 := by rw [u4, u3]; simp
   have hq2 := hq L hBL;cbv;refine Z7 ?_;cbv;refine Z1w [3] ?_;cbv;refine ⟨by cases L <;> exact hLl.symm, by cases L <;> exact hLl.symm, by cases L <;> exact hLl.symm, ?_⟩;exact Z2 [] (by decide) Z9 (H' := []) (d' := .agg [I j.ins, .sl 1 FL, .sl 5 ML, .sl 1 L, .fn f _]) trivial rfl (Z1 hq2)
end Go.Proofs.Ytecfpfhkicapeaa

namespace Go.Proofs.Ytecfpfhkicapeaa
open Go Go.Abs Go.Proofs Go.Batch
def mvI (m : Mv) (b : Nat) : D :=
 if m.kind = 1 then .ifc 157 (.agg [I m.kind, I m.bin, I m.inst, I m.lo, I m.hi, I (b : Nat)])
 else if m.kind = 2 then .ifc 159 (.agg [I m.kind, I m.bin, I m.inst, I m.lo, I m.hi])
 else .ifc 162 (.agg [I m.kind, I m.bin, I m.inst, I m.lo, I m.hi])
def m0 : Mv := ⟨0, 0, 0, 0, 0⟩
def Z52 (ms : List Mv) (k : Nat) : List D := (List.range k).map fun i => mvI (ms.getD i m0) (Z6 (ms.take i)).length
theorem Zkx (ms : List Mv) (k : Nat) : Z52 ms (k + 1) = Z52 ms k ++ [mvI (ms.getD k m0) (Z6 (ms.take k)).length] := by
 simp [Z52, List.range_succ]
theorem Zn6 {ms : List Mv} {n k : Nat} {m : Mv} (hk : k < n) (h : ms[k]? = some m) : (Z52 ms n)[k]? = some (mvI m (Z6 (ms.take k)).length) := by
 simp [Z52, hk, List.getD_eq_getElem?_getD, h]
set_option maxRecDepth 20000 in
set_option maxHeartbeats 4000000 in
theorem Zwv (ins : Int) (ms : List Mv) (hk13 : ∀ m ∈ ms, m.kind = 1 ∨ m.kind = 2 ∨ m.kind = 3) (hm : ms.length <= 1000) (FL ML BL : List D) (hM : ML = ms.map mvD) (f : FuncId) (caps : List D) (hc : Zn5 caps) (Q) (hq : ∀ VL, VL = Z52 ms ms.length -> Q (RA.ret (.sl 1 VL)) []) :
  CallA Try.prog 127 [.agg [I ins, .sl 1 FL, .sl 5 ML, .sl 1 BL, .fn f caps]] [] Q := by
 obtain ⟨A, hA⟩ : ∃ A, A = ar := ⟨_, rfl⟩;have hMl : ML.length = ms.length := by rw [hM]; simp
 rcases hc with rfl | ⟨cx, rfl⟩ | ⟨cx, cy, rfl⟩
 all_goals
  refine Z5 Z0 hA Try.func127 rfl rfl rfl rfl rfl fun S hS => ?_;cbv;refine Zb hS ?_;refine Za (α := Int × Nat × Int × Nat × List D) ((fun (cp : List D) q => { env := [(1, .b 0 0), (3, .o 1 1 q.2.2.2.1), (4, I q.2.2.1), (9, .sl 5 ML), (10, I (A.oi (A.len ML))), (11, I q.1)], H := [.box (.agg [I ins, .sl 1 FL, .sl 5 ML, .sl 1 BL, .fn f cp]), .els 1 q.2.2.2.2], nt := 44, dfs := [] }) (by first | exact [.cb cx 0, .cb cy 0] | exact [.cb cx 0] | exact []))
   (fun q => ms.length - q.2.1) (fun q => q.2.1 <= ms.length /\ IsI q.1 q.2.1 /\ IsI q.2.2.1 (Z6 (ms.take q.2.1)).length /\ q.2.2.2.1 = q.2.1 /\ q.2.2.2.2 = Z52 ms q.2.1) (0, 0, 0, 0, []) ⟨Nat.zero_le _, ⟨rfl⟩, ⟨rfl⟩, rfl, rfl⟩ (by
    refine Z2a 3 1 rfl ?_
    exact Zf [0, 1] ⟨by decide, Z9, ⟨rfl, rfl, trivial⟩, ⟨rfl, rfl, rfl, rfl, rfl, rfl, trivial⟩, rfl, rfl⟩) ?_
  rintro ⟨i, k, bi, n0, L⟩ ⟨u1, u2, u3, u4, u5⟩;dsimp only at u1 u2 u3 u4 u5;refine Zi Z0 hA hS ?_;cbv;refine bm (fun e => ?_) (fun e => ?_)
  ·have hk : k < ms.length := Z31 hA hMl u2 e;obtain ⟨m, hmk⟩ : ∃ m, ms[k]? = some m := ⟨_, List.getElem?_eq_getElem hk⟩;have hMk : ML[k]? = some (.agg [I m.kind, I m.bin, I m.inst, I m.lo, I m.hi]) := by rw [hM]; simp [hmk, mvD]
   have hmg : ms.getD k m0 = m := by rw [List.getD_eq_getElem?_getD, hmk]; rfl
   have hbt := Z65 hmk;have hbl := Z6e ms k;have hsu := Zkx ms k;rw [hmg] at hsu;have hin := Z1b hA hMl u2 hk;have hg := Z18 hA u2 hMk;have hf1 := Zy hA u2 (by omega);have hu2 := Zz hA u2;have hf3 := Zy hA u3 (by omega);have hu3 := Zz hA u3;have hLl : L.length = n0 := by rw [u5, u4]; simp [Z52]
   have hn0 : n0 <= 1000000 := by omega
   have hn2 : A.addN n0 1 = k + 1 := by rw [Z2e hA, u4]
   have hms : ms.length - (k + 1) < ms.length - k := by omega
   have hkd := hk13 m (List.mem_of_getElem? hmk);obtain ⟨bn, hbn⟩ : ∃ bn, bn = (Z6 (ms.take k)).length := ⟨_, rfl⟩;rw [<- hbn] at hsu u3 hu3;have hv1 : m.kind = 1 -> A.app L [.ifc 157 (.agg [I m.kind, I m.bin, I m.inst, I m.lo, I m.hi, I bi])] = Z52 ms (k + 1) := fun h => by rw [Z33 hA, hsu, u5, mvI, if_pos h, u3.eq]
   have hv2 : m.kind = 2 -> A.app L [.ifc 159 (.agg [I m.kind, I m.bin, I m.inst, I m.lo, I m.hi])] = Z52 ms (k + 1) := fun h => by rw [Z33 hA, hsu, u5, mvI, if_neg (by omega), if_pos h]
   have hv3 : m.kind ≠ 1 -> m.kind ≠ 2 -> A.app L [.ifc 162 (.agg [I m.kind, I m.bin, I m.inst, I m.lo, I m.hi])] = Z52 ms (k + 1) := fun h h' => by rw [Z33 hA, hsu, u5, mvI, if_neg h, if_neg h']
   have hb1 : m.kind = 1 -> IsI (A.add bi 1) (Z6 (ms.take (k + 1))).length := fun h => by rw [hbt, if_pos h]; simp; rw [<- hbn]; exact hu3
   have hb2 : m.kind ≠ 1 -> IsI bi (Z6 (ms.take (k + 1))).length := fun h => by rw [hbt, if_neg h, <- hbn]; exact u3
   have e1 : m.kind = 2 -> m.kind ≠ 1 := fun h => by omega
   cbv;refine ⟨hin, ⟨_, hg, ?_⟩⟩;cbv;refine bm (fun c1 => ?_) (fun c1 => ?_)
   ·cbv;refine ⟨Ze hA hLl, Ze hA rfl, Z27 hA hn0 (by decide), hf3, hf1, ?_⟩;refine Z8 (A.add i 1, k + 1, A.add bi 1, A.addN n0 1, A.app L [.ifc 157 (.agg [I m.kind, I m.bin, I m.inst, I m.lo, I m.hi, I bi])]) [0, 4] ⟨hk, hu2, hb1 (xeq hA c1), hn2, hv1 (xeq hA c1)⟩ hms ?_;exact ⟨by decide, Z9, ⟨rfl, rfl, trivial⟩, ⟨rfl, rfl, rfl, rfl, rfl, rfl, trivial⟩, rfl, rfl⟩
   ·cbv;refine bm (fun c2 => ?_) (fun c2 => ?_)
    ·cbv;refine ⟨Ze hA hLl, Ze hA rfl, Z27 hA hn0 (by decide), hf1, ?_⟩;refine Z8 (A.add i 1, k + 1, bi, A.addN n0 1, A.app L [.ifc 159 (.agg [I m.kind, I m.bin, I m.inst, I m.lo, I m.hi])]) [0, 4] ⟨hk, hu2, hb2 (Z2o hA c1), hn2, hv2 (xeq hA c2)⟩ hms ?_;exact ⟨by decide, Z9, ⟨rfl, rfl, trivial⟩, ⟨rfl, rfl, rfl, rfl, rfl, rfl, trivial⟩, rfl, rfl⟩
    ·cbv;refine ⟨Ze hA hLl, Ze hA rfl, Z27 hA hn0 (by decide), hf1, ?_⟩;refine Z8 (A.add i 1, k + 1, bi, A.addN n0 1, A.app L [.ifc 162 (.agg [I m.kind, I m.bin, I m.inst, I m.lo, I m.hi])]) [0, 4] ⟨hk, hu2, hb2 (Z2o hA c1), hn2, hv3 (Z2o hA c1) (Z2o hA c2)⟩ hms ?_;exact ⟨by decide, Z9, ⟨rfl, rfl, trivial⟩, ⟨rfl, rfl, rfl, rfl, rfl, rfl, trivial⟩, rfl, rfl⟩
  ·have hk : k = ms.length := by have := Z21 hA hMl u2 e; omega
   have hVL : L = Z52 ms ms.length := by rw [u5, hk]
   have hLl : L.length = n0 := by rw [u5, u4]; simp [Z52]
   have hq2 := hq L hVL;cbv;refine Z7 ?_;cbv;refine Z1w [1] ?_;cbv;exact ⟨by cases L <;> exact hLl.symm, Z2 [] (by decide) Z9 (H' := []) (d' := .sl 1 L) trivial rfl (Z1 hq2)⟩
theorem Zct {bin : Int} : ∀ {bs l : List Int} {k : Nat} {b : Int}, bs[k]? = some b -> inL bin (bs.take (k + 1)) l = inL bin (bs.take k) l + (if b = bin then l.getD k 0 else 0)
 | [], l, k, b, h => by simp at h
 | c :: bs, l, 0, b, h => by
  simp at h; subst h
  cases l <;> simp [inL]
 | c :: bs, l, k + 1, b, h => by
  have := Zct (bin := bin) (l := l.tail) (k := k) (b := b) (bs := bs) (by simpa using h);simp only [List.take_succ_cons, inL, this];have e : l.tail.getD k 0 = l.getD (k + 1) 0 := by cases l <;> simp
  rw [e]; omega
theorem Zek {bin : Int} : ∀ {bs l : List Int}, (∀ i, 0 <= l.getD i 0 /\ l.getD i 0 <= 5) -> 0 <= inL bin bs l /\ inL bin bs l <= 5 * bs.length
 | [], l, h => by simp [inL]
 | c :: bs, l, h => by
  have h1 := Zek (bin := bin) (bs := bs) (l := l.tail) (fun i => by
   have := h (i + 1)
   have e : l.tail.getD i 0 = l.getD (i + 1) 0 := by cases l <;> simp
   rw [e]; exact this)
  have h2 := h 0;have e : l.headD 0 = l.getD 0 0 := by cases l <;> simp
  simp only [inL, List.length_cons, e]
  split <;> omega
set_option maxRecDepth 20000 in
set_option maxHeartbeats 4000000 in
theorem bIn (ins : Int) (bins l : List Int) (hb4 : bins.length <= 4) (hl : LOk l) (bin : Int) (FL ML BL : List D) (hB : BL = bins.map I) (x0 x1 x2 x3 : Int) (hx : l = [x0, x1, x2, x3]) (n : Int) (hn : n = inL bin bins l) (f : FuncId) (caps : List D) (hc : Zn5 caps) (Q) (hq : Q (RA.ret (I n)) []) :
  CallA Try.prog 103 [.agg [I ins, .sl 1 FL, .sl 5 ML, .sl 1 BL, .fn f caps], .agg [I x0, I x1, I x2, I x3], I bin] [] Q := by
 obtain ⟨A, hA⟩ : ∃ A, A = ar := ⟨_, rfl⟩;have hBl : BL.length = bins.length := by rw [hB]; simp
 have hxg : ∀ k, k < 4 -> ∃ x : Int, x = l.getD k 0 /\ ([I x0, I x1, I x2, I x3] : List D)[0 + k]? = some (I x) := fun k hk => by
  refine ⟨_, rfl, ?_⟩;rw [hx, Nat.zero_add]
  match k, hk with
  | 0, _ => rfl
  | 1, _ => rfl
  | 2, _ => rfl
  | 3, _ => rfl
 have hbd : ∀ k, k <= bins.length -> 0 <= inL bin (bins.take k) l /\ inL bin (bins.take k) l <= 20 := fun k hk => by
  have := Zek (bin := bin) (bs := bins.take k) (l := l) (fun i => ⟨hl.lo i, hl.hi i⟩);rw [List.length_take] at this; omega
 rcases hc with rfl | ⟨cx, rfl⟩ | ⟨cx, cy, rfl⟩
 all_goals
  refine Z5 Z0 hA Try.func103 rfl rfl rfl rfl rfl fun S hS => ?_;cbv;refine Zb hS ?_;refine Za (α := Int × Nat × Int) ((fun (cp : List D) q => { env := [(2, I bin), (4, .b 1 0), (7, I q.2.2), (11, .sl 1 BL), (12, I (A.oi (A.len BL))), (13, I q.1)], H := [.box (.agg [I ins, .sl 1 FL, .sl 5 ML, .sl 1 BL, .fn f cp]), .box (.agg [I x0, I x1, I x2, I x3])], nt := 28, dfs := [] }) (by first | exact [.cb cx 0, .cb cy 0] | exact [.cb cx 0] | exact []))
   (fun q => bins.length - q.2.1) (fun q => q.2.1 <= bins.length /\ IsI q.1 q.2.1 /\ q.2.2 = inL bin (bins.take q.2.1) l) (0, 0, 0) ⟨Nat.zero_le _, ⟨rfl⟩, rfl⟩ (by
    exact Zf [0, 1] ⟨by decide, Z9, ⟨rfl, rfl, trivial⟩, ⟨rfl, rfl, rfl, rfl, rfl, rfl, trivial⟩, rfl, rfl⟩) ?_
  rintro ⟨i, k, sm⟩ ⟨u1, u2, u3⟩;dsimp only at u1 u2 u3;refine Zi Z0 hA hS ?_;cbv;refine bm (fun e => ?_) (fun e => ?_)
  ·have hk : k < bins.length := Z31 hA hBl u2 e;obtain ⟨b, hbk⟩ : ∃ b, bins[k]? = some b := ⟨_, List.getElem?_eq_getElem hk⟩;have hBk : BL[k]? = some (I b) := by rw [hB]; simp [hbk]
   have ht := Zct (bin := bin) (l := l) hbk;have hb0 := hbd k u1;have hb1 := hbd (k + 1) hk;obtain ⟨x, hxe, hxG⟩ := hxg k (by omega);have hin := Z1b hA hBl u2 hk;have hg := Z18 hA u2 hBk;have hin4 : A.inb i 4 := Z4o hA u2 (by omega);have hgx := Zo9 hA 0 u2 hxG;have hf1 := Zy hA u2 (by omega);have hu2 := Zz hA u2;have hms : bins.length - (k + 1) < bins.length - k := by omega
   have hs1 : b = bin -> A.add sm x = inL bin (bins.take (k + 1)) l := fun h => by rw [ht, if_pos h, Z58 hA, u3, hxe]
   have hs2 : b ≠ bin -> sm = inL bin (bins.take (k + 1)) l := fun h => by rw [ht, if_neg h, u3]; simp
   have hfs : b = bin -> A.fits .i64 (A.add sm x) := fun h => Z14 hA (hs1 h) (by omega);cbv;refine ⟨hin, ⟨_, hg, ?_⟩⟩;cbv;refine bm (fun c1 => ?_) (fun c1 => ?_)
   ·cbv;refine ⟨hin4, ⟨_, hgx, ?_⟩⟩;cbv;refine ⟨hfs (xeq hA c1), hf1, ?_⟩;refine Z8 (A.add i 1, k + 1, A.add sm x) [0, 1] ⟨hk, hu2, hs1 (xeq hA c1)⟩ hms ?_;exact ⟨by decide, Z9, ⟨rfl, rfl, trivial⟩, ⟨rfl, rfl, rfl, rfl, rfl, rfl, trivial⟩, rfl, rfl⟩
   ·cbv;refine ⟨hf1, ?_⟩;refine Z8 (A.add i 1, k + 1, sm) [0, 1] ⟨hk, hu2, hs2 (Z2o hA c1)⟩ hms ?_;exact ⟨by decide, Z9, ⟨rfl, rfl, trivial⟩, ⟨rfl, rfl, rfl, rfl, rfl, rfl, trivial⟩, rfl, rfl⟩
  ·have hk : k = bins.length := by have := Z21 hA hBl u2 e; omega
   have hz : n = sm := by rw [hn, u3, hk, List.take_length]
   rw [hz] at hq;cbv;refine Z7 ?_;cbv;exact Z2 [] (by decide) Z9 (H' := []) (d' := I sm) trivial rfl (Z1 hq)
end Go.Proofs.Ytecfpfhkicapeaa

/- Part TxBC of the proofs about the benches of the accordion maker: see the last text of the claim for what is proved. -/
import Derived.Test.YtggilmnhgjofiaaGreatProg
import Derived.KernelRfl
import Derived.Test.YtggilmnhgjofiaaGreatTxAS
import Derived.Test.YtggilmnhgjofiaaGreatTxBB
set_option linter.unusedVariables false
set_option linter.unusedSimpArgs false
set_option linter.unnecessarySimpa false
set_option linter.constructorNameAsVariable false

namespace Go.Proofs.YtggilmnhgjofiaaGreat
open Go Go.Abs Go.Proofs
def TDl : List (Nat × TE) := [
 (3, ⟨1, 8, false, .v (.int .i64 0), none, [], some .i64, 10, true, none, some 1⟩),
 (29, ⟨2, 16, true, .agg [.v (.int .i64 0), .v (.int .i64 0)], none, [(0, 1, 0), (1, 1, 0)], none, 8, true, none, some 2⟩),
 (41, ⟨18, 160, true, .agg [.v (.int .i64 0), .v (.int .i64 0), .v (.int .i64 0), .v (.int .i64 0), .v (.int .i64 0), .v (.int .i64 0), .v (.int .i64 0), .v (.int .i64 0), .v (.int .i64 0), .v (.int .i64 0), .v (.int .i64 0), .v (.int .i64 0), .v (.int .i64 0), .v (.int .i64 0), .v (.int .i64 0), .v (.slice none 0 0), .v (.int .i64 0), .v (.int .i64 0)], none, [(0, 6, 1), (6, 9, 1), (15, 1, 0), (16, 1, 0), (17, 1, 0)], none, 8, true, none, none⟩),
 (33, ⟨21, 200, true, .agg [.v (.int .i64 0), .v (.int .i64 0), .v (.int .i64 0), .v (.int .i64 0), .v (.int .i64 0), .v (.slice none 0 0), .v (.slice none 0 0), .v (.int .i64 0), .v (.int .i64 0), .v (.int .i64 0), .v (.int .i64 0), .v (.int .i64 0), .v (.int .i64 0), .v (.int .i64 0), .v (.int .i64 0), .v (.int .i64 0), .v (.int .i64 0), .v (.int .i64 0), .v (.int .i64 0), .v (.int .i64 0), .v (.int .i64 0)], none, [(0, 4, 1), (4, 1, 0), (5, 1, 0), (6, 1, 0), (7, 2, 1), (9, 2, 1), (11, 9, 1), (20, 1, 0)], none, 8, true, none, none⟩),
 (22, ⟨1, 24, false, .v (.slice none 0 0), some (none, 3), [], none, 3, true, none, none⟩),
 (27, ⟨1, 24, false, .v (.slice none 0 0), some (none, 50), [], none, 3, true, none, none⟩),
 (39, ⟨1, 24, false, .v (.slice none 0 0), some (none, 29), [], none, 3, true, none, none⟩),
 (50, ⟨4, 32, true, .agg [.v (.int .i64 0), .v (.int .i64 0), .v (.int .i64 0), .v (.int .i64 0)], none, [(0, 2, 1), (2, 2, 1)], none, 8, true, none, some 4⟩),
 (23, ⟨1, 8, false, .v (.pointer none), none, [], none, 5, true, none, none⟩),
 (26, ⟨4, 32, true, .agg [.v (.int .i64 0), .v (.int .i64 0), .v (.int .i64 0), .v (.int .i64 0)], none, [(0, 1, 0), (1, 1, 0), (2, 1, 0), (3, 1, 0)], none, 8, true, none, some 4⟩),
 (4, ⟨1, 1, false, .v (.bool false), none, [], none, 1, true, none, none⟩),
 (85, ⟨9, 136, true, .agg [.v (.int .i64 0), .v (.int .i64 0), .v (.int .i64 0), .v (.int .i64 0), .v (.int .i64 0), .v (.slice none 0 0), .v (.slice none 0 0), .v (.slice none 0 0), .v (.slice none 0 0)], none, [(0, 1, 0), (1, 1, 0), (2, 1, 0), (3, 1, 0), (4, 1, 0), (5, 1, 0), (6, 1, 0), (7, 1, 0), (8, 1, 0)], none, 8, true, none, none⟩),
 (144, ⟨3, 24, true, .agg [.v (.int .i64 0), .v (.int .i64 0), .v (.int .i64 0)], some (some 3, 3), [], none, 9, true, none, some 3⟩),
 (114, ⟨15, 120, true, .agg [.v (.int .i64 0), .v (.int .i64 0), .v (.int .i64 0), .v (.int .i64 0), .v (.int .i64 0), .v (.int .i64 0), .v (.int .i64 0), .v (.int .i64 0), .v (.int .i64 0), .v (.int .i64 0), .v (.int .i64 0), .v (.int .i64 0), .v (.int .i64 0), .v (.int .i64 0), .v (.int .i64 0)], none, [(0, 6, 1), (6, 9, 1)], none, 8, true, none, some 15⟩),
 (139, ⟨6, 48, true, .agg [.v (.int .i64 0), .v (.int .i64 0), .v (.int .i64 0), .v (.int .i64 0), .v (.int .i64 0), .v (.int .i64 0)], none, [(0, 1, 0), (1, 1, 0), (2, 1, 0), (3, 1, 0), (4, 2, 1)], none, 8, true, none, some 6⟩),
 (38, ⟨6, 48, true, .agg [.v (.int .i64 0), .v (.int .i64 0), .v (.int .i64 0), .v (.int .i64 0), .v (.int .i64 0), .v (.int .i64 0)], none, [(0, 2, 1), (2, 2, 1), (4, 2, 1)], none, 8, true, none, some 6⟩),
 (42, ⟨1, 8, false, .v (.int .i64 0), none, [], some .i64, 10, true, none, some 1⟩),
 (106, ⟨5, 40, true, .agg [.v (.int .i64 0), .v (.int .i64 0), .v (.int .i64 0), .v (.int .i64 0), .v (.int .i64 0)], none, [(0, 2, 1), (2, 1, 0), (3, 1, 0), (4, 1, 0)], none, 8, true, none, some 5⟩),
 (94, ⟨3, 56, true, .agg [.v (.int .i64 0), .v (.slice none 0 0), .v (.slice none 0 0)], none, [(0, 1, 0), (1, 1, 0), (2, 1, 0)], none, 8, true, none, none⟩),
 (31, ⟨9, 72, true, .agg [.v (.int .i64 0), .v (.int .i64 0), .v (.int .i64 0), .v (.int .i64 0), .v (.int .i64 0), .v (.int .i64 0), .v (.int .i64 0), .v (.int .i64 0), .v (.int .i64 0)], none, [(0, 2, 1), (2, 2, 1), (4, 2, 1), (6, 2, 1), (8, 1, 0)], none, 8, true, none, some 9⟩),
 (101, ⟨21, 184, true, .agg [.v (.int .i64 0), .v (.int .i64 0), .v (.int .i64 0), .v (.int .i64 0), .v (.int .i64 0), .v (.int .i64 0), .v (.int .i64 0), .v (.int .i64 0), .v (.int .i64 0), .v (.int .i64 0), .v (.int .i64 0), .v (.int .i64 0), .v (.int .i64 0), .v (.int .i64 0), .v (.int .i64 0), .v (.slice none 0 0), .v (.int .i64 0), .v (.int .i64 0), .v (.int .i64 0), .v (.int .i64 0), .v (.nilFunc)], none, [(0, 18, 1), (18, 2, 1), (20, 1, 0)], none, 8, true, none, none⟩),
 (77, ⟨5, 56, true, .agg [.v (.int .i64 0), .v (.int .i64 0), .v (.int .i64 0), .v (.int .i64 0), .v (.slice none 0 0)], none, [(0, 4, 1), (4, 1, 0)], none, 8, true, none, none⟩),
 (68, ⟨1, 8, false, .v (.int .u64 0), none, [], some .u64, 10, true, none, none⟩),
 (174, ⟨6, 48, true, .agg [.v (.int .i64 0), .v (.int .i64 0), .v (.int .i64 0), .v (.int .i64 0), .v (.int .i64 0), .v (.int .i64 0)], some (some 6, 3), [], none, 9, true, none, some 6⟩),
 (193, ⟨4, 32, true, .agg [.v (.int .i64 0), .v (.int .i64 0), .v (.int .i64 0), .v (.int .i64 0)], none, [(0, 1, 0), (1, 1, 0), (2, 1, 0), (3, 1, 0)], none, 8, true, none, some 4⟩),
 (132, ⟨1, 24, false, .v (.slice none 0 0), some (none, 144), [], none, 3, true, none, none⟩),
 (52, ⟨3, 24, true, .agg [.v (.int .i64 0), .v (.int .i64 0), .v (.int .i64 0)], none, [(0, 1, 0), (1, 1, 0), (2, 1, 0)], none, 8, true, none, some 3⟩),
 (64, ⟨2, 16, true, .agg [.v (.int .i64 0), .v (.int .i64 0)], none, [(0, 1, 0), (1, 1, 0)], none, 8, true, none, some 2⟩),
 (180, ⟨7, 56, true, .agg [.v (.int .i64 0), .v (.int .i64 0), .v (.int .i64 0), .v (.int .i64 0), .v (.int .i64 0), .v (.int .i64 0), .v (.int .i64 0)], none, [(0, 6, 1), (6, 1, 0)], none, 8, true, none, some 7⟩),
 (81, ⟨3, 24, true, .agg [.v (.int .i64 0), .v (.int .i64 0), .v (.int .i64 0)], none, [(0, 1, 0), (1, 1, 0), (2, 1, 0)], none, 8, true, none, some 3⟩),
 (162, ⟨1, 8, false, .v (.map none), none, [], none, 4, true, some (166, 4), none⟩),
 (166, ⟨2, 16, true, .agg [.v (.int .i64 0), .v (.int .i64 0)], some (some 2, 3), [], none, 9, true, none, some 2⟩),
 (88, ⟨2, 48, true, .agg [.v (.slice none 0 0), .v (.slice none 0 0)], none, [(0, 1, 0), (1, 1, 0)], none, 8, true, none, none⟩),
 (75, ⟨1, 24, false, .v (.slice none 0 0), some (none, 27), [], none, 3, true, none, none⟩),
 (182, ⟨6, 48, true, .agg [.v (.int .i64 0), .v (.int .i64 0), .v (.int .i64 0), .v (.int .i64 0), .v (.int .i64 0), .v (.int .i64 0)], none, [(0, 6, 1)], none, 8, true, none, some 6⟩),
 (70, ⟨1, 8, true, .agg [.v (.int .u64 0)], none, [(0, 1, 0)], none, 8, true, none, none⟩),
 (82, ⟨1, 24, false, .v (.slice none 0 0), some (none, 81), [], none, 3, true, none, none⟩),
 (206, ⟨1, 24, false, .v (.slice none 0 0), some (none, 136), [], none, 3, true, none, none⟩),
 (83, ⟨1, 24, false, .v (.slice none 0 0), some (none, 193), [], none, 3, true, none, none⟩),
 (92, ⟨1, 24, false, .v (.slice none 0 0), some (none, 139), [], none, 3, true, none, none⟩),
 (122, ⟨6, 80, true, .agg [.v (.int .i64 0), .v (.int .i64 0), .v (.int .i64 0), .v (.int .i64 0), .v (.slice none 0 0), .v (.slice none 0 0)], none, [(0, 5, 1), (5, 1, 0)], none, 8, true, none, none⟩),
 (126, ⟨1, 8, false, .v (.int .i64 0), none, [], some .i64, 10, true, none, some 1⟩),
 (136, ⟨1, 16, false, .v (.nilIface), none, [], none, 7, true, none, none⟩),
 (154, ⟨1, 8, false, .v (.map none), none, [], none, 4, true, some (106, 4), none⟩),
 (183, ⟨6, 48, true, .agg [.v (.int .i64 0), .v (.int .i64 0), .v (.int .i64 0), .v (.int .i64 0), .v (.int .i64 0), .v (.int .i64 0)], none, [(0, 6, 1)], none, 8, true, none, some 6⟩),
 (207, ⟨1, 8, false, .v (.nilFunc), none, [], none, 6, true, none, none⟩),
 (99, ⟨1, 8, false, .v (.nilFunc), none, [], none, 6, true, none, none⟩),
 (140, ⟨1, 8, false, .v (.map none), none, [], none, 4, true, some (3, 132), none⟩),
 (107, ⟨1, 8, false, .v (.nilFunc), none, [], none, 6, true, none, none⟩),
 (200, ⟨1, 8, false, .v (.nilFunc), none, [], none, 6, true, none, none⟩),
 (202, ⟨1, 8, false, .v (.nilFunc), none, [], none, 6, true, none, none⟩),
 (208, ⟨4, 32, true, .agg [.v (.int .i64 0), .v (.int .i64 0), .v (.int .i64 0), .v (.int .i64 0)], some (some 2, 29), [], none, 9, true, none, some 4⟩),
 (145, ⟨1, 8, false, .v (.nilFunc), none, [], none, 6, true, none, none⟩),
 (195, ⟨1, 8, false, .v (.chan none), none, [], none, 0, true, none, none⟩)]
def TD (n : Nat) : Option TE := lkp TDl n
theorem te3 : Z3c Tryz.prog 3 = some ⟨1, 8, false, .v (.int .i64 0), none, [], some .i64, 10, true, none, some 1⟩ /\ zsB Tryz.prog 3 = true := ⟨by kernel_rfl, by kernel_rfl⟩
theorem Zz1 : Z3c Tryz.prog 29 = some ⟨2, 16, true, .agg [.v (.int .i64 0), .v (.int .i64 0)], none, [(0, 1, 0), (1, 1, 0)], none, 8, true, none, some 2⟩ /\ zsB Tryz.prog 29 = true := ⟨by kernel_rfl, by kernel_rfl⟩
theorem te41 : Z3c Tryz.prog 41 = some ⟨18, 160, true, .agg [.v (.int .i64 0), .v (.int .i64 0), .v (.int .i64 0), .v (.int .i64 0), .v (.int .i64 0), .v (.int .i64 0), .v (.int .i64 0), .v (.int .i64 0), .v (.int .i64 0), .v (.int .i64 0), .v (.int .i64 0), .v (.int .i64 0), .v (.int .i64 0), .v (.int .i64 0), .v (.int .i64 0), .v (.slice none 0 0), .v (.int .i64 0), .v (.int .i64 0)], none, [(0, 6, 1), (6, 9, 1), (15, 1, 0), (16, 1, 0), (17, 1, 0)], none, 8, true, none, none⟩ /\ zsB Tryz.prog 41 = true := ⟨by kernel_rfl, by kernel_rfl⟩
theorem Zz7 : Z3c Tryz.prog 33 = some ⟨21, 200, true, .agg [.v (.int .i64 0), .v (.int .i64 0), .v (.int .i64 0), .v (.int .i64 0), .v (.int .i64 0), .v (.slice none 0 0), .v (.slice none 0 0), .v (.int .i64 0), .v (.int .i64 0), .v (.int .i64 0), .v (.int .i64 0), .v (.int .i64 0), .v (.int .i64 0), .v (.int .i64 0), .v (.int .i64 0), .v (.int .i64 0), .v (.int .i64 0), .v (.int .i64 0), .v (.int .i64 0), .v (.int .i64 0), .v (.int .i64 0)], none, [(0, 4, 1), (4, 1, 0), (5, 1, 0), (6, 1, 0), (7, 2, 1), (9, 2, 1), (11, 9, 1), (20, 1, 0)], none, 8, true, none, none⟩ /\ zsB Tryz.prog 33 = true := ⟨by kernel_rfl, by kernel_rfl⟩
theorem Zz6 : Z3c Tryz.prog 22 = some ⟨1, 24, false, .v (.slice none 0 0), some (none, 3), [], none, 3, true, none, none⟩ /\ zsB Tryz.prog 22 = true := ⟨by kernel_rfl, by kernel_rfl⟩
theorem Zz2 : Z3c Tryz.prog 27 = some ⟨1, 24, false, .v (.slice none 0 0), some (none, 50), [], none, 3, true, none, none⟩ /\ zsB Tryz.prog 27 = true := ⟨by kernel_rfl, by kernel_rfl⟩
theorem te39 : Z3c Tryz.prog 39 = some ⟨1, 24, false, .v (.slice none 0 0), some (none, 29), [], none, 3, true, none, none⟩ /\ zsB Tryz.prog 39 = true := ⟨by kernel_rfl, by kernel_rfl⟩
theorem Zz4 : Z3c Tryz.prog 50 = some ⟨4, 32, true, .agg [.v (.int .i64 0), .v (.int .i64 0), .v (.int .i64 0), .v (.int .i64 0)], none, [(0, 2, 1), (2, 2, 1)], none, 8, true, none, some 4⟩ /\ zsB Tryz.prog 50 = true := ⟨by kernel_rfl, by kernel_rfl⟩
theorem Zz3 : Z3c Tryz.prog 23 = some ⟨1, 8, false, .v (.pointer none), none, [], none, 5, true, none, none⟩ /\ zsB Tryz.prog 23 = true := ⟨by kernel_rfl, by kernel_rfl⟩
theorem te26 : Z3c Tryz.prog 26 = some ⟨4, 32, true, .agg [.v (.int .i64 0), .v (.int .i64 0), .v (.int .i64 0), .v (.int .i64 0)], none, [(0, 1, 0), (1, 1, 0), (2, 1, 0), (3, 1, 0)], none, 8, true, none, some 4⟩ /\ zsB Tryz.prog 26 = true := ⟨by kernel_rfl, by kernel_rfl⟩
theorem te4 : Z3c Tryz.prog 4 = some ⟨1, 1, false, .v (.bool false), none, [], none, 1, true, none, none⟩ /\ zsB Tryz.prog 4 = true := ⟨by kernel_rfl, by kernel_rfl⟩
theorem Zze : Z3c Tryz.prog 85 = some ⟨9, 136, true, .agg [.v (.int .i64 0), .v (.int .i64 0), .v (.int .i64 0), .v (.int .i64 0), .v (.int .i64 0), .v (.slice none 0 0), .v (.slice none 0 0), .v (.slice none 0 0), .v (.slice none 0 0)], none, [(0, 1, 0), (1, 1, 0), (2, 1, 0), (3, 1, 0), (4, 1, 0), (5, 1, 0), (6, 1, 0), (7, 1, 0), (8, 1, 0)], none, 8, true, none, none⟩ /\ zsB Tryz.prog 85 = true := ⟨by kernel_rfl, by kernel_rfl⟩
theorem Z27n : Z3c Tryz.prog 144 = some ⟨3, 24, true, .agg [.v (.int .i64 0), .v (.int .i64 0), .v (.int .i64 0)], some (some 3, 3), [], none, 9, true, none, some 3⟩ /\ zsB Tryz.prog 144 = true := ⟨by kernel_rfl, by kernel_rfl⟩
theorem Z1aa : Z3c Tryz.prog 114 = some ⟨15, 120, true, .agg [.v (.int .i64 0), .v (.int .i64 0), .v (.int .i64 0), .v (.int .i64 0), .v (.int .i64 0), .v (.int .i64 0), .v (.int .i64 0), .v (.int .i64 0), .v (.int .i64 0), .v (.int .i64 0), .v (.int .i64 0), .v (.int .i64 0), .v (.int .i64 0), .v (.int .i64 0), .v (.int .i64 0)], none, [(0, 6, 1), (6, 9, 1)], none, 8, true, none, some 15⟩ /\ zsB Tryz.prog 114 = true := ⟨by kernel_rfl, by kernel_rfl⟩
theorem Z27o : Z3c Tryz.prog 139 = some ⟨6, 48, true, .agg [.v (.int .i64 0), .v (.int .i64 0), .v (.int .i64 0), .v (.int .i64 0), .v (.int .i64 0), .v (.int .i64 0)], none, [(0, 1, 0), (1, 1, 0), (2, 1, 0), (3, 1, 0), (4, 2, 1)], none, 8, true, none, some 6⟩ /\ zsB Tryz.prog 139 = true := ⟨by kernel_rfl, by kernel_rfl⟩
theorem te38 : Z3c Tryz.prog 38 = some ⟨6, 48, true, .agg [.v (.int .i64 0), .v (.int .i64 0), .v (.int .i64 0), .v (.int .i64 0), .v (.int .i64 0), .v (.int .i64 0)], none, [(0, 2, 1), (2, 2, 1), (4, 2, 1)], none, 8, true, none, some 6⟩ /\ zsB Tryz.prog 38 = true := ⟨by kernel_rfl, by kernel_rfl⟩
theorem Zz5 : Z3c Tryz.prog 42 = some ⟨1, 8, false, .v (.int .i64 0), none, [], some .i64, 10, true, none, some 1⟩ /\ zsB Tryz.prog 42 = true := ⟨by kernel_rfl, by kernel_rfl⟩
theorem Z27p : Z3c Tryz.prog 106 = some ⟨5, 40, true, .agg [.v (.int .i64 0), .v (.int .i64 0), .v (.int .i64 0), .v (.int .i64 0), .v (.int .i64 0)], none, [(0, 2, 1), (2, 1, 0), (3, 1, 0), (4, 1, 0)], none, 8, true, none, some 5⟩ /\ zsB Tryz.prog 106 = true := ⟨by kernel_rfl, by kernel_rfl⟩
theorem te94 : Z3c Tryz.prog 94 = some ⟨3, 56, true, .agg [.v (.int .i64 0), .v (.slice none 0 0), .v (.slice none 0 0)], none, [(0, 1, 0), (1, 1, 0), (2, 1, 0)], none, 8, true, none, none⟩ /\ zsB Tryz.prog 94 = true := ⟨by kernel_rfl, by kernel_rfl⟩
theorem te31 : Z3c Tryz.prog 31 = some ⟨9, 72, true, .agg [.v (.int .i64 0), .v (.int .i64 0), .v (.int .i64 0), .v (.int .i64 0), .v (.int .i64 0), .v (.int .i64 0), .v (.int .i64 0), .v (.int .i64 0), .v (.int .i64 0)], none, [(0, 2, 1), (2, 2, 1), (4, 2, 1), (6, 2, 1), (8, 1, 0)], none, 8, true, none, some 9⟩ /\ zsB Tryz.prog 31 = true := ⟨by kernel_rfl, by kernel_rfl⟩
theorem Z1fa : Z3c Tryz.prog 101 = some ⟨21, 184, true, .agg [.v (.int .i64 0), .v (.int .i64 0), .v (.int .i64 0), .v (.int .i64 0), .v (.int .i64 0), .v (.int .i64 0), .v (.int .i64 0), .v (.int .i64 0), .v (.int .i64 0), .v (.int .i64 0), .v (.int .i64 0), .v (.int .i64 0), .v (.int .i64 0), .v (.int .i64 0), .v (.int .i64 0), .v (.slice none 0 0), .v (.int .i64 0), .v (.int .i64 0), .v (.int .i64 0), .v (.int .i64 0), .v (.nilFunc)], none, [(0, 18, 1), (18, 2, 1), (20, 1, 0)], none, 8, true, none, none⟩ /\ zsB Tryz.prog 101 = true := ⟨by kernel_rfl, by kernel_rfl⟩
theorem te77 : Z3c Tryz.prog 77 = some ⟨5, 56, true, .agg [.v (.int .i64 0), .v (.int .i64 0), .v (.int .i64 0), .v (.int .i64 0), .v (.slice none 0 0)], none, [(0, 4, 1), (4, 1, 0)], none, 8, true, none, none⟩ /\ zsB Tryz.prog 77 = true := ⟨by kernel_rfl, by kernel_rfl⟩
theorem te68 : Z3c Tryz.prog 68 = some ⟨1, 8, false, .v (.int .u64 0), none, [], some .u64, 10, true, none, none⟩ /\ zsB Tryz.prog 68 = true := ⟨by kernel_rfl, by kernel_rfl⟩
theorem Z27q : Z3c Tryz.prog 174 = some ⟨6, 48, true, .agg [.v (.int .i64 0), .v (.int .i64 0), .v (.int .i64 0), .v (.int .i64 0), .v (.int .i64 0), .v (.int .i64 0)], some (some 6, 3), [], none, 9, true, none, some 6⟩ /\ zsB Tryz.prog 174 = true := ⟨by kernel_rfl, by kernel_rfl⟩
theorem Z1ft : Z3c Tryz.prog 193 = some ⟨4, 32, true, .agg [.v (.int .i64 0), .v (.int .i64 0), .v (.int .i64 0), .v (.int .i64 0)], none, [(0, 1, 0), (1, 1, 0), (2, 1, 0), (3, 1, 0)], none, 8, true, none, some 4⟩ /\ zsB Tryz.prog 193 = true := ⟨by kernel_rfl, by kernel_rfl⟩
theorem Z27r : Z3c Tryz.prog 132 = some ⟨1, 24, false, .v (.slice none 0 0), some (none, 144), [], none, 3, true, none, none⟩ /\ zsB Tryz.prog 132 = true := ⟨by kernel_rfl, by kernel_rfl⟩
theorem te52 : Z3c Tryz.prog 52 = some ⟨3, 24, true, .agg [.v (.int .i64 0), .v (.int .i64 0), .v (.int .i64 0)], none, [(0, 1, 0), (1, 1, 0), (2, 1, 0)], none, 8, true, none, some 3⟩ /\ zsB Tryz.prog 52 = true := ⟨by kernel_rfl, by kernel_rfl⟩
theorem te64 : Z3c Tryz.prog 64 = some ⟨2, 16, true, .agg [.v (.int .i64 0), .v (.int .i64 0)], none, [(0, 1, 0), (1, 1, 0)], none, 8, true, none, some 2⟩ /\ zsB Tryz.prog 64 = true := ⟨by kernel_rfl, by kernel_rfl⟩
theorem Z27s : Z3c Tryz.prog 180 = some ⟨7, 56, true, .agg [.v (.int .i64 0), .v (.int .i64 0), .v (.int .i64 0), .v (.int .i64 0), .v (.int .i64 0), .v (.int .i64 0), .v (.int .i64 0)], none, [(0, 6, 1), (6, 1, 0)], none, 8, true, none, some 7⟩ /\ zsB Tryz.prog 180 = true := ⟨by kernel_rfl, by kernel_rfl⟩
theorem te81 : Z3c Tryz.prog 81 = some ⟨3, 24, true, .agg [.v (.int .i64 0), .v (.int .i64 0), .v (.int .i64 0)], none, [(0, 1, 0), (1, 1, 0), (2, 1, 0)], none, 8, true, none, some 3⟩ /\ zsB Tryz.prog 81 = true := ⟨by kernel_rfl, by kernel_rfl⟩
theorem Zxz : Z3c Tryz.prog 162 = some ⟨1, 8, false, .v (.map none), none, [], none, 4, true, some (166, 4), none⟩ /\ zsB Tryz.prog 162 = true := ⟨by kernel_rfl, by kernel_rfl⟩
theorem Z1a4 : Z3c Tryz.prog 166 = some ⟨2, 16, true, .agg [.v (.int .i64 0), .v (.int .i64 0)], some (some 2, 3), [], none, 9, true, none, some 2⟩ /\ zsB Tryz.prog 166 = true := ⟨by kernel_rfl, by kernel_rfl⟩
theorem te88 : Z3c Tryz.prog 88 = some ⟨2, 48, true, .agg [.v (.slice none 0 0), .v (.slice none 0 0)], none, [(0, 1, 0), (1, 1, 0)], none, 8, true, none, none⟩ /\ zsB Tryz.prog 88 = true := ⟨by kernel_rfl, by kernel_rfl⟩
theorem Zz8 : Z3c Tryz.prog 75 = some ⟨1, 24, false, .v (.slice none 0 0), some (none, 27), [], none, 3, true, none, none⟩ /\ zsB Tryz.prog 75 = true := ⟨by kernel_rfl, by kernel_rfl⟩
theorem Z27t : Z3c Tryz.prog 182 = some ⟨6, 48, true, .agg [.v (.int .i64 0), .v (.int .i64 0), .v (.int .i64 0), .v (.int .i64 0), .v (.int .i64 0), .v (.int .i64 0)], none, [(0, 6, 1)], none, 8, true, none, some 6⟩ /\ zsB Tryz.prog 182 = true := ⟨by kernel_rfl, by kernel_rfl⟩
theorem te70 : Z3c Tryz.prog 70 = some ⟨1, 8, true, .agg [.v (.int .u64 0)], none, [(0, 1, 0)], none, 8, true, none, none⟩ /\ zsB Tryz.prog 70 = true := ⟨by kernel_rfl, by kernel_rfl⟩
theorem te82 : Z3c Tryz.prog 82 = some ⟨1, 24, false, .v (.slice none 0 0), some (none, 81), [], none, 3, true, none, none⟩ /\ zsB Tryz.prog 82 = true := ⟨by kernel_rfl, by kernel_rfl⟩
theorem Z27u : Z3c Tryz.prog 206 = some ⟨1, 24, false, .v (.slice none 0 0), some (none, 136), [], none, 3, true, none, none⟩ /\ zsB Tryz.prog 206 = true := ⟨by kernel_rfl, by kernel_rfl⟩
theorem te83 : Z3c Tryz.prog 83 = some ⟨1, 24, false, .v (.slice none 0 0), some (none, 193), [], none, 3, true, none, none⟩ /\ zsB Tryz.prog 83 = true := ⟨by kernel_rfl, by kernel_rfl⟩
theorem te92 : Z3c Tryz.prog 92 = some ⟨1, 24, false, .v (.slice none 0 0), some (none, 139), [], none, 3, true, none, none⟩ /\ zsB Tryz.prog 92 = true := ⟨by kernel_rfl, by kernel_rfl⟩
theorem Z27v : Z3c Tryz.prog 122 = some ⟨6, 80, true, .agg [.v (.int .i64 0), .v (.int .i64 0), .v (.int .i64 0), .v (.int .i64 0), .v (.slice none 0 0), .v (.slice none 0 0)], none, [(0, 5, 1), (5, 1, 0)], none, 8, true, none, none⟩ /\ zsB Tryz.prog 122 = true := ⟨by kernel_rfl, by kernel_rfl⟩
theorem Z27w : Z3c Tryz.prog 126 = some ⟨1, 8, false, .v (.int .i64 0), none, [], some .i64, 10, true, none, some 1⟩ /\ zsB Tryz.prog 126 = true := ⟨by kernel_rfl, by kernel_rfl⟩
theorem Z27x : Z3c Tryz.prog 136 = some ⟨1, 16, false, .v (.nilIface), none, [], none, 7, true, none, none⟩ /\ zsB Tryz.prog 136 = true := ⟨by kernel_rfl, by kernel_rfl⟩
theorem Z1fq : Z3c Tryz.prog 154 = some ⟨1, 8, false, .v (.map none), none, [], none, 4, true, some (106, 4), none⟩ /\ zsB Tryz.prog 154 = true := ⟨by kernel_rfl, by kernel_rfl⟩
theorem Z19o : Z3c Tryz.prog 183 = some ⟨6, 48, true, .agg [.v (.int .i64 0), .v (.int .i64 0), .v (.int .i64 0), .v (.int .i64 0), .v (.int .i64 0), .v (.int .i64 0)], none, [(0, 6, 1)], none, 8, true, none, some 6⟩ /\ zsB Tryz.prog 183 = true := ⟨by kernel_rfl, by kernel_rfl⟩
theorem Z1fu : Z3c Tryz.prog 207 = some ⟨1, 8, false, .v (.nilFunc), none, [], none, 6, true, none, none⟩ /\ zsB Tryz.prog 207 = true := ⟨by kernel_rfl, by kernel_rfl⟩
theorem te99 : Z3c Tryz.prog 99 = some ⟨1, 8, false, .v (.nilFunc), none, [], none, 6, true, none, none⟩ /\ zsB Tryz.prog 99 = true := ⟨by kernel_rfl, by kernel_rfl⟩
theorem Z27y : Z3c Tryz.prog 140 = some ⟨1, 8, false, .v (.map none), none, [], none, 4, true, some (3, 132), none⟩ /\ zsB Tryz.prog 140 = true := ⟨by kernel_rfl, by kernel_rfl⟩
theorem Zy3 : Z3c Tryz.prog 107 = some ⟨1, 8, false, .v (.nilFunc), none, [], none, 6, true, none, none⟩ /\ zsB Tryz.prog 107 = true := ⟨by kernel_rfl, by kernel_rfl⟩
theorem Z1f9 : Z3c Tryz.prog 200 = some ⟨1, 8, false, .v (.nilFunc), none, [], none, 6, true, none, none⟩ /\ zsB Tryz.prog 200 = true := ⟨by kernel_rfl, by kernel_rfl⟩
theorem Z27z : Z3c Tryz.prog 202 = some ⟨1, 8, false, .v (.nilFunc), none, [], none, 6, true, none, none⟩ /\ zsB Tryz.prog 202 = true := ⟨by kernel_rfl, by kernel_rfl⟩
theorem Z280 : Z3c Tryz.prog 208 = some ⟨4, 32, true, .agg [.v (.int .i64 0), .v (.int .i64 0), .v (.int .i64 0), .v (.int .i64 0)], some (some 2, 29), [], none, 9, true, none, some 4⟩ /\ zsB Tryz.prog 208 = true := ⟨by kernel_rfl, by kernel_rfl⟩
theorem Zy2 : Z3c Tryz.prog 145 = some ⟨1, 8, false, .v (.nilFunc), none, [], none, 6, true, none, none⟩ /\ zsB Tryz.prog 145 = true := ⟨by kernel_rfl, by kernel_rfl⟩
theorem Z281 : Z3c Tryz.prog 195 = some ⟨1, 8, false, .v (.chan none), none, [], none, 0, true, none, none⟩ /\ zsB Tryz.prog 195 = true := ⟨by kernel_rfl, by kernel_rfl⟩
theorem Z0 : TOK Tryz.prog TD := Zwk (fun _ => rfl) (
 ⟨te3, Zz1, te41, Zz7, Zz6, Zz2, te39, Zz4, Zz3, te26, te4, Zze, Z27n, Z1aa, Z27o, te38, Zz5, Z27p, te94, te31, Z1fa, te77, te68, Z27q, Z1ft, Z27r, te52, te64, Z27s, te81, Zxz, Z1a4, te88, Zz8, Z27t, te70, te82, Z27u, te83, te92, Z27v, Z27w, Z27x, Z1fq, Z19o, Z1fu, te99, Z27y, Zy3, Z1f9, Z27z, Z280, Zy2, Z281, trivial⟩) (by kernel_rfl)
end Go.Proofs.YtggilmnhgjofiaaGreat

namespace Go.Proofs.YtggilmnhgjofiaaGreat
open Go Go.Abs Go.Proofs
def I (x : Int) : D := .v (.int .i64 x)
theorem Zdh {n : Int} (h : -9223372036854775808 <= n /\ n <= 9223372036854775807) : IntKind.i64.wrap n = n := by rw [IntKind.wrap_i64]; omega
def U (x : Int) : D := .v (.int .u64 x)
theorem Z272 (L : List D) (nums : List Int) (hL : L = nums.map I) (hl : L.length <= 9223372036854775807) (Q) (hq : ∀ x, Q (RA.ret (.b 0 0)) [.box (.agg [U x])]) :
  CallA Tryz.prog 4 [.sl 1 L] [] Q := by
 obtain ⟨A, hA⟩ : ∃ A, A = ar := ⟨_, rfl⟩;refine Z5 Z0 hA Tryz.func4 rfl rfl rfl rfl rfl fun S hS => ?_;cbv;refine Zb hS ?_;refine Zgw (α := Int × Nat × Int) (fun x => { env := [(0, .sl 1 L), (3, .b 0 0), (4, .v (.int .i64 x.1))], H := [.box (.agg [U x.2.2])], nt := 41, dfs := [] }) (fun x => L.length - x.2.1) (fun x => x.2.1 <= L.length /\ x.1 = x.2.1) (0, 0, 2611923443488327891) ⟨Nat.zero_le _, rfl⟩ [0] ?_ ?_
 ·exact ⟨by decide, fun i hi => absurd hi (by simp), ⟨rfl, trivial⟩, ⟨rfl, rfl, rfl, trivial⟩, rfl, rfl⟩
 rintro ⟨i, k, x⟩ ⟨hk, hi⟩
 replace hk : k <= L.length := hk
 replace hi : i = (k : Int) := hi
 refine Zi Z0 hA hS ?_;cbv
 split
 ·rename_i hc
  cbv
  replace hi : i = (k : Int) := hi
  have hlt : k < L.length := by subst hA; simp [ar, Z25] at hc; omega
  refine Z16 Z0 hA hS [0, 1, 2, 3, 4, 5, 6, 7, 8, 9, 10, 11, 12, 13, 14] rfl rfl fun Dk hD => ?_;cbv
  replace hi : i = (k : Int) := hi
  obtain ⟨y, hy⟩ : ∃ y, y = nums[k]'(by rw [hL] at hlt; simpa using hlt) := ⟨_, rfl⟩;refine ⟨by subst hA; simp [ar]; omega, ⟨.v (.int .i64 y), by subst hA; simp [ar, hL, hi, hy, I], ?_⟩⟩;cbv;refine Z16 Z0 hA hS [0, 1, 2, 3, 4, 5, 6, 7, 8, 9, 10, 11, 12, 13] rfl rfl fun Dk hD2 => ?_;cbv
  replace hi : i = (k : Int) := hi
  subst hA;refine ⟨by simp [ar], Zdh (by simp [ar]; omega), (i + 1, k + 1, _), [0], ⟨by simp; omega, by simp; omega⟩, by simp; omega, by decide, fun i hi => absurd hi (by simp), ⟨rfl, trivial⟩, ⟨rfl, rfl, rfl, trivial⟩, rfl, rfl⟩
 ·rename_i hc
  cbv;refine Z1 (hq x)
def pot (x : Int) : Blk := .box (.agg [U x])
theorem Zws (n : Int) : 0 <= IntKind.u64.wrap n := by
 have : IntKind.u64.wrap n = n % 18446744073709551616 := rfl;rw [this]; exact Int.emod_nonneg _ (by decide)
theorem Zwt (x y : Int) : 0 <= ar.bits .xor .u64 x y := Zws _
theorem Zbu {n : Int} (h : -9223372036854775808 <= n /\ n <= 9223372036854775807) : ar.fits .i64 n := Zdh h
theorem Zvb {n : Int} (h : 0 <= n) : ar.nneg n := h
theorem step (x : Int) (Q) (hq : ∀ y x', 0 <= y -> Q (RA.ret (U y)) [pot x']) : CallA Tryz.prog 32 [.b 0 0] [pot x] Q := by
 obtain ⟨A, hA⟩ : ∃ A, A = ar := ⟨_, rfl⟩;refine Z5 Z0 hA Tryz.func32 rfl rfl rfl rfl rfl fun S hS => ?_;cbv;refine ⟨by subst hA; exact Zvb (by decide), by subst hA; exact Zvb (by decide), by subst hA; exact Zvb (by decide), Z1 (hq _ _ ?_)⟩;subst hA; exact Zwt _ _
theorem Zj0 (x most : Int) (hm : most <= 1000000000000) (Q) (hq : ∀ n x', 0 <= n -> (n <= most ∨ n = 0) -> Q (RA.ret (I n)) [pot x']) : CallA Tryz.prog 8 [.b 0 0, I most] [pot x] Q := by
 obtain ⟨A, hA⟩ : ∃ A, A = ar := ⟨_, rfl⟩;refine Z5 Z0 hA Tryz.func8 rfl rfl rfl rfl rfl fun S hS => ?_;cbv
 split
 ·cbv;exact Z1 (hq 0 x (by omega) (.inr rfl))
 ·rename_i hc
  cbv;refine Z4 hS [.b 0 0] [0] [pot x] rfl rfl rfl rfl rfl rfl rfl rfl (by decide) ⟨rfl, trivial⟩ (step x _ fun y x' hy => ?_);refine Z3 Z0 hA hS ?_;cbv;subst hA;have hlt : 1 <= most := by simp [ar, Z25] at hc; omega
  refine ⟨Zvb (by decide), Zbu (by simp [ar]; omega), by
   show IntKind.u64.wrap (most + 1) ≠ 0
   have : IntKind.u64.wrap (most + 1) = (most + 1) % 18446744073709551616 := rfl
   rw [this, Int.emod_eq_of_lt (by omega) (by omega)]; omega, Z1 (hq _ x' ?_ (.inl ?_))⟩
  all_goals
   have e : ar.wrap .i64 (ar.rem (ar.shift .shr .u64 y 11) (ar.wrap .u64 (ar.add most 1))) = (y.fdiv (2 ^ 11)).tmod (most + 1) := by
    have e1 : IntKind.u64.wrap (most + 1) = most + 1 := by
     have : IntKind.u64.wrap (most + 1) = (most + 1) % 18446744073709551616 := rfl;rw [this, Int.emod_eq_of_lt (by omega) (by omega)]
    have h1 : 0 <= y.fdiv (2 ^ 11) := Int.fdiv_nonneg hy (by decide);have h2 := Int.tmod_nonneg (most + 1) h1;have h3 := Int.tmod_lt_of_pos (y.fdiv (2 ^ 11)) (show 0 < most + 1 by omega);show IntKind.i64.wrap ((y.fdiv (2 ^ 11)).tmod (IntKind.u64.wrap (most + 1))) = _;rw [e1];exact Zdh ⟨by omega, by omega⟩
   have h1 : 0 <= y.fdiv (2 ^ 11) := Int.fdiv_nonneg hy (by decide);have h2 := Int.tmod_nonneg (most + 1) h1;have h3 := Int.tmod_lt_of_pos (y.fdiv (2 ^ 11)) (show 0 < most + 1 by omega)
   first
   | exact le_of_le_of_eq h2 e.symm
   | exact le_of_eq_of_le e (by omega)
theorem Zn3 (x least most : Int) (hm : -1000000000 <= least /\ least <= 1000000000 /\ -1000000000 <= most /\ most <= 1000000000) (Q) (hq : ∀ n x', least <= n -> (n <= most ∨ n = least) -> Q (RA.ret (I n)) [pot x']) : CallA Tryz.prog 14 [.b 0 0, I least, I most] [pot x] Q := by
 obtain ⟨A, hA⟩ : ∃ A, A = ar := ⟨_, rfl⟩;refine Z5 Z0 hA Tryz.func14 rfl rfl rfl rfl rfl fun S hS => ?_;cbv;refine ⟨by subst hA; exact Zbu (by simp [ar]; omega), ?_⟩;refine Z4 hS [.b 0 0, I (A.sub most least)] [0] [pot x] rfl rfl rfl rfl rfl rfl rfl rfl (by decide) ⟨rfl, trivial⟩ (Zj0 x _ (by subst hA; simp [ar]; omega) _ fun n x' h1 h2 => ?_);refine Z3 Z0 hA hS ?_;cbv;subst hA
 replace h1 : 0 <= n := h1
 replace h2 : n <= most - least ∨ n = 0 := h2
 exact ⟨Zbu (by simp [ar]; omega), Z1 (hq (least + n) x' (by omega) (by omega))⟩
theorem of_ (x : Int) (L : List D) (l : List Int) (hL : L = l.map I) (hl : l.length <= 1000) (hl0 : l ≠ []) (Q) (hq : ∀ n x', n ∈ l -> Q (RA.ret (I n)) [pot x']) : CallA Tryz.prog 40 [.b 0 0, .sl 1 L] [pot x] Q := by
 obtain ⟨A, hA⟩ : ∃ A, A = ar := ⟨_, rfl⟩;have hlen : L.length = l.length := by rw [hL]; simp
 have hpos : 0 < l.length := List.length_pos_iff.2 hl0;refine Z5 Z0 hA Tryz.func40 rfl rfl rfl rfl rfl fun S hS => ?_;cbv
 split
 ·rename_i hc
  exfalso; subst hA
  replace hc : ((L.length : Int) == 0) = true := hc
  have := eq_of_beq hc;omega
 ·cbv;refine ⟨by subst hA; exact Zbu (n := (L.length : Int) - 1) (by omega), ?_⟩;refine Z4 hS [.b 0 0, I (A.sub (A.oi (A.len L)) 1)] [0] [pot x] rfl rfl rfl rfl rfl rfl rfl rfl (by decide) ⟨rfl, trivial⟩ (Zj0 x _ (by subst hA; show (L.length : Int) - 1 <= _; omega) _ fun n x' h1 h2 => ?_);refine Z3 Z0 hA hS ?_;cbv;have h2' : n < l.length := by
   subst hA
   replace h2 : n <= (L.length : Int) - 1 ∨ n = 0 := h2
   omega
  replace h1 : 0 <= n := h1
  obtain ⟨k, rfl⟩ := Int.eq_ofNat_of_zero_le h1;have hk : k < l.length := by omega
  obtain ⟨z, hz⟩ : ∃ z, z = l[k] := ⟨_, rfl⟩;refine ⟨by subst hA; show 0 <= (k : Int) /\ (k : Int) < (L.length : Nat); omega, ⟨I z, by subst hA; simp [ar, hL, hk, hz], ?_⟩⟩;cbv;exact Z1 (hq _ x' (hz ▸ List.getElem_mem hk))
theorem Zwu (x n least most wide : Int) (hn : -100000 <= least /\ least <= n /\ n <= most /\ most <= 100000) (hw : 0 <= wide /\ wide <= 100000) (Q)
  (hq : ∀ lo hi x', least <= lo -> lo <= n -> n <= hi -> hi <= most -> Q (RA.ret (.agg [I lo, I hi])) [pot x']) :
  CallA Tryz.prog 50 [.b 0 0, I n, I least, I most, I wide] [pot x] Q := by
 obtain ⟨A, hA⟩ : ∃ A, A = ar := ⟨_, rfl⟩;refine Z5 Z0 hA Tryz.func50 rfl rfl rfl rfl rfl fun S hS => ?_;cbv;refine Z4 hS [.b 0 0, I wide] [0] [pot x] rfl rfl rfl rfl rfl rfl rfl rfl (by decide) ⟨rfl, trivial⟩ (Zj0 x _ (by omega) _ fun a xa ha1 ha2 => ?_);refine Z3 Z0 hA hS ?_;cbv;refine Z26 hS (Z1a hA [2] ?_);cbv;refine ⟨by subst hA; rfl, Z7 ?_⟩;refine Z4 hS [.b 0 0, .sl 1 [I 0, I 0, I a]] [0] [pot xa] rfl rfl rfl rfl rfl rfl rfl rfl (by decide) ⟨rfl, trivial⟩ (of_ xa _ [0, 0, a] rfl (Nat.le_of_ble_eq_true rfl) (by simp) _ fun o xo ho => ?_);have ho' : 0 <= o /\ (o <= wide ∨ o = 0) := by simp at ho; omega
 refine Z3 Z0 hA hS ?_;cbv;refine ⟨by subst hA; exact Zbu (n := n - o) (by omega), ?_⟩;refine Z4 hS [.b 0 0, I wide] [0] [pot xo] rfl rfl rfl rfl rfl rfl rfl rfl (by decide) ⟨rfl, trivial⟩ (Zj0 xo _ (by omega) _ fun c xc hc1 hc2 => ?_);refine Z3 Z0 hA hS ?_;cbv;refine Z26 hS (Z1a hA [3] ?_);cbv;refine ⟨by subst hA; rfl, Z7 ?_⟩;refine Z4 hS [.b 0 0, .sl 1 [I 0, I 0, I c]] [0] [pot xc] rfl rfl rfl rfl rfl rfl rfl rfl (by decide) ⟨rfl, trivial⟩ (of_ xc _ [0, 0, c] rfl (Nat.le_of_ble_eq_true rfl) (by simp) _ fun p xp hp => ?_);have hp' : 0 <= p /\ (p <= wide ∨ p = 0) := by simp at hp; omega
 refine Z3 Z0 hA hS ?_;cbv;subst hA;refine ⟨Zbu (n := n + p) (by omega), Z2 [0] (by decide) (by decide) (H' := [pot xp]) (d' := .agg [I (if n - o > least then n - o else least), I (if n + p < most then n + p else most)]) ⟨rfl, trivial⟩ rfl (Z1 (hq _ _ xp ?_ ?_ ?_ ?_))⟩
 all_goals split <;> omega
theorem Z1xl (x lo hi : Int) (h : -1000000 <= lo /\ lo <= hi /\ hi <= 1000000) (Q) (hq : ∀ n x', lo <= n -> n <= hi -> Q (RA.ret (I n)) [pot x']) :
  CallA Tryz.prog 12 [.b 0 0, .agg [I lo, I hi]] [pot x] Q := by
 obtain ⟨A, hA⟩ : ∃ A, A = ar := ⟨_, rfl⟩;refine Z5 Z0 hA Tryz.func12 rfl rfl rfl rfl rfl fun S hS => ?_;cbv;refine Z16 Z0 hA hS [0, 1, 2, 3, 4, 5, 6, 7, 8, 9, 10, 11, 12, 13] rfl rfl fun Dk hD => ?_;cbv;refine Zq hA hD [.b 0 0, I lo, I hi] [0] [pot x] rfl rfl rfl rfl rfl rfl rfl rfl rfl rfl rfl (by decide) ⟨rfl, trivial⟩ (Zn3 x lo hi (by omega) _ fun n xn hn1 hn2 => ⟨by cbv, Zx Z0 hA hD ?_⟩);cbv;refine Zmn hA hD [2] rfl rfl rfl rfl rfl rfl fun CG hC => ?_;cbv;refine ⟨by subst hA; rfl, ?_⟩;rw [hC];refine Zs5 [.b 0 0, .sl 1 [I lo, I hi, I n]] [0] [pot xn] rfl rfl rfl rfl rfl (by decide) ⟨rfl, trivial⟩ (of_ xn _ [lo, hi, n] rfl (Nat.le_of_ble_eq_true rfl) (by simp) _ fun o xo ho => Zo8 hA Z0 hD ?_ ?_)
 ·cbv
 cbv;refine Z2 [0] (by decide) (by decide) (H' := [pot xo]) (d' := I o) ⟨rfl, trivial⟩ rfl (Z1 (hq _ xo ?_ ?_))
 all_goals simp at ho; omega
end Go.Proofs.YtggilmnhgjofiaaGreat

namespace Go.Proofs.YtggilmnhgjofiaaGreat
open Go Go.Abs Go.Conc Go.Proofs
def mD (x6 x8 : D) : D := .agg [I 1, I 2, I 0, I 3, I 2, .sl 1 [I 0], x6, .v (.slice none 0 0), x8]
def hD : D := .agg [.sl 1 [I 0], .v (.slice none 0 0)]
def st6 (n : Int) : D := .agg [I n, I 0, I 0, I 0, I 0, I 0]
def st6V (n : Int) : Value := .agg #[.int .i64 n, .int .i64 0, .int .i64 0, .int .i64 0, .int .i64 0, .int .i64 0]
noncomputable def Z26n : Code := Tryz.f104.body.getD .skip
theorem Z26o {F : Fz} {μ : Mu} {n : Int} {v : Value} (h : VR F μ (.agg [.v (.int .i64 n), .v (.int .i64 0), .v (.int .i64 0), .v (.int .i64 0), .v (.int .i64 0), .v (.int .i64 0)]) v) : v = st6V n :=
 Z97 (a := [n, 0, 0, 0, 0, 0]) h
set_option maxRecDepth 40000 in
set_option maxHeartbeats 16000000 in
theorem Z24j (x6 x8 : D) (N cb : Nat) (w₀ : World) : AtI Tryz.prog false N cb w₀ (Z1w5 Tryz.prog N cb (.tuple #[]) [st6V 3]) (baseD 104) [botF Tryz.prog] [.code Z26n]
  { env := [(0, .cb (.v (.chan (some cb))) 0), (1, .cb hD 0), (2, .cb (mD x6 x8) 0), (3, .cb (I 3) 0)], H := [], nt := 74, dfs := [] } := by
 refine Z1ug ?_;refine Z1u5 ?_;refine Z1uw Z0 rfl fun K hK => ?_;cbv
 repeat (first | (refine ⟨Int.NonNeg.mk _, ?_⟩) | (refine Need.mk ⟨_, rfl, ?_⟩; cbv))
 refine hK _ _ ?_;clear hK K;refine Z24h rfl rfl rfl rfl rfl rfl rfl ?_;refine Z1ug ?_;refine Z1u5 ?_;refine Z1uw Z0 rfl fun K hK => ?_;cbv
 repeat (first | (refine ⟨Int.NonNeg.mk _, ?_⟩) | (refine Need.mk ⟨_, rfl, ?_⟩; cbv))
 refine hK _ _ ?_;clear hK K;refine Z1u9 ?_;refine Z1vl ?_;refine Z1xe ?_;refine Z1vl ?_;refine Z1ug ?_;refine Z1u5 ?_;refine Z1uw Z0 rfl fun K hK => ?_;cbv
 repeat (first | (refine ⟨Int.NonNeg.mk _, ?_⟩) | (refine Need.mk ⟨_, rfl, ?_⟩; cbv))
 refine hK _ _ ?_;clear hK K;refine Z1u9 ?_;refine Z1ug ?_;refine Z1ug ?_;refine Z1u5 ?_;refine Z1uw Z0 rfl fun K hK => ?_;cbv
 repeat (first | (refine ⟨Int.NonNeg.mk _, ?_⟩) | (refine Need.mk ⟨_, rfl, ?_⟩; cbv))
 refine hK _ _ ?_;clear hK K;refine Z1u9 ?_;refine Z1vl ?_;refine Z1xe ?_;refine Z1ug ?_;refine Z1u5 ?_;refine Z1uw Z0 rfl fun K hK => ?_;cbv
 repeat (first | (refine ⟨Int.NonNeg.mk _, ?_⟩) | (refine Need.mk ⟨_, rfl, ?_⟩; cbv))
 refine hK _ _ ?_;clear hK K;refine Z1u9 ?_;refine Z1ug ?_;refine Z1w8 true rfl ?_;refine Z1yt ?_;refine Z1ug ?_;refine Z1vl ?_;refine Z1ug ?_;refine Z1u5 ?_;refine Z1uw Z0 rfl fun K hK => ?_;cbv
 repeat (first | (refine ⟨Int.NonNeg.mk _, ?_⟩) | (refine Need.mk ⟨_, rfl, ?_⟩; cbv))
 refine hK _ _ ?_;clear hK K;refine Z1u9 ?_;refine Z22y Z0 rfl [0, 1, 2, 3, 4, 5, 6, 7, 8, 9, 10, 11, 12, 13, 14, 15] rfl rfl fun K hK => ?_;cbv
 repeat (first | (refine ⟨Int.NonNeg.mk _, ?_⟩) | (refine Need.mk ⟨_, rfl, ?_⟩; cbv))
 refine hK _ ?_;clear hK K;refine Z21f 1 (st6 3) rfl WkL.rfl ?_;refine Z1x0 ?_;refine Z1u5 ?_;refine Z1uw Z0 rfl fun K hK => ?_;cbv
 repeat (first | (refine ⟨Int.NonNeg.mk _, ?_⟩) | (refine Need.mk ⟨_, rfl, ?_⟩; cbv))
 refine hK _ _ ?_;clear hK K;refine Z1u9 ?_;refine Z1xf ?_;refine Z1ug ?_;refine Z1u5 ?_;refine Z1uw Z0 rfl fun K hK => ?_;cbv
 repeat (first | (refine ⟨Int.NonNeg.mk _, ?_⟩) | (refine Need.mk ⟨_, rfl, ?_⟩; cbv))
 refine hK _ _ ?_;clear hK K;refine Z1u9 ?_;refine Z1ug ?_;refine Z1w8 false rfl ?_;refine Z1yu rfl ?_;refine Z1ug ?_;refine Z1ug ?_;refine Z1u5 ?_;refine Z1uw Z0 rfl fun K hK => ?_;cbv
 repeat (first | (refine ⟨Int.NonNeg.mk _, ?_⟩) | (refine Need.mk ⟨_, rfl, ?_⟩; cbv))
 refine hK _ _ ?_;clear hK K;refine Z1u9 ?_;refine Z1vl ?_;refine Z1xe ?_;refine Z1ug ?_;refine Z1u5 ?_;refine Z1uw Z0 rfl fun K hK => ?_;cbv
 repeat (first | (refine ⟨Int.NonNeg.mk _, ?_⟩) | (refine Need.mk ⟨_, rfl, ?_⟩; cbv))
 refine hK _ _ ?_;clear hK K;refine Z1u9 ?_;refine Z1ug ?_;refine Z1w8 false rfl ?_;refine Z1yu rfl ?_;refine Z1ug ?_;refine Z1ug ?_;refine Z1u5 ?_;refine Z1uw Z0 rfl fun K hK => ?_;cbv
 repeat (first | (refine ⟨Int.NonNeg.mk _, ?_⟩) | (refine Need.mk ⟨_, rfl, ?_⟩; cbv))
 refine FlatEq.mk ⟨[3, 0, 0, 0, 0, 0], [0, 0, 0, 0, 0, 0], rfl, rfl, rfl, rfl, ?_⟩;cbv;refine hK _ _ ?_;clear hK K;refine Z1u9 ?_;refine Z1w8 false rfl ?_;refine Z1yt ?_;refine Z1ug ?_;refine Z1u5 ?_;refine Z1uw Z0 rfl fun K hK => ?_;cbv
 repeat (first | (refine ⟨Int.NonNeg.mk _, ?_⟩) | (refine Need.mk ⟨_, rfl, ?_⟩; cbv))
 refine hK _ _ ?_;clear hK K;refine Z25o (z := .tuple #[]) rfl rfl rfl rfl rfl rfl rfl (fun F μ v h => Z26o h) ?_;refine Z1u9 ?_;refine Z1u5 ?_;refine Z1uw Z0 rfl fun K hK => ?_;cbv
 repeat (first | (refine ⟨Int.NonNeg.mk _, ?_⟩) | (refine Need.mk ⟨_, rfl, ?_⟩; cbv))
 refine hK _ _ ?_;clear hK K;refine Z1u9 ?_;refine Z1x0 ?_;refine Z1xf ?_;refine Z1vl ?_;refine Z1ug ?_;refine Z1u5 ?_;refine Z1uw Z0 rfl fun K hK => ?_;cbv
 repeat (first | (refine ⟨Int.NonNeg.mk _, ?_⟩) | (refine Need.mk ⟨_, rfl, ?_⟩; cbv))
 refine hK _ _ ?_;clear hK K;refine Z1u9 ?_;refine Z1ug ?_;refine Z1ug ?_;refine Z1u5 ?_;refine Z1uw Z0 rfl fun K hK => ?_;cbv
 repeat (first | (refine ⟨Int.NonNeg.mk _, ?_⟩) | (refine Need.mk ⟨_, rfl, ?_⟩; cbv))
 refine hK _ _ ?_;clear hK K;refine Z1u9 ?_;refine Z1vl ?_;refine Z1xe ?_;refine Z1ug ?_;refine Z1u5 ?_;refine Z1uw Z0 rfl fun K hK => ?_;cbv
 repeat (first | (refine ⟨Int.NonNeg.mk _, ?_⟩) | (refine Need.mk ⟨_, rfl, ?_⟩; cbv))
 refine hK _ _ ?_;clear hK K;refine Z1u9 ?_;refine Z1ug ?_;refine Z1w8 true rfl ?_;refine Z1yt ?_;refine Z1ug ?_;refine Z1vl ?_;refine Z1ug ?_;refine Z1u5 ?_;refine Z1uw Z0 rfl fun K hK => ?_;cbv
 repeat (first | (refine ⟨Int.NonNeg.mk _, ?_⟩) | (refine Need.mk ⟨_, rfl, ?_⟩; cbv))
 refine hK _ _ ?_;clear hK K;refine Z1u9 ?_;refine Z22y Z0 rfl [0, 1, 2, 3, 4, 5, 6, 7, 8, 9, 10, 11, 12, 13, 14, 15] rfl rfl fun K hK => ?_;cbv
 repeat (first | (refine ⟨Int.NonNeg.mk _, ?_⟩) | (refine Need.mk ⟨_, rfl, ?_⟩; cbv))
 refine hK _ ?_;clear hK K;refine Z21f 2 (st6 3) rfl WkL.rfl ?_;refine Z1x0 ?_;refine Z1u5 ?_;refine Z1uw Z0 rfl fun K hK => ?_;cbv
 repeat (first | (refine ⟨Int.NonNeg.mk _, ?_⟩) | (refine Need.mk ⟨_, rfl, ?_⟩; cbv))
 refine hK _ _ ?_;clear hK K;refine Z1u9 ?_;refine Z1xf ?_;refine Z1ug ?_;refine Z1u5 ?_;refine Z1uw Z0 rfl fun K hK => ?_;cbv
 repeat (first | (refine ⟨Int.NonNeg.mk _, ?_⟩) | (refine Need.mk ⟨_, rfl, ?_⟩; cbv))
 refine hK _ _ ?_;clear hK K;refine Z1u9 ?_;refine Z1ug ?_;refine Z1w8 false rfl ?_;refine Z1yu rfl ?_;refine Z1ug ?_;refine Z1ug ?_;refine Z1u5 ?_;refine Z1uw Z0 rfl fun K hK => ?_;cbv
 repeat (first | (refine ⟨Int.NonNeg.mk _, ?_⟩) | (refine Need.mk ⟨_, rfl, ?_⟩; cbv))
 refine hK _ _ ?_;clear hK K;refine Z1u9 ?_;refine Z1vl ?_;refine Z1xe ?_;refine Z1ug ?_;refine Z1u5 ?_;refine Z1uw Z0 rfl fun K hK => ?_;cbv
 repeat (first | (refine ⟨Int.NonNeg.mk _, ?_⟩) | (refine Need.mk ⟨_, rfl, ?_⟩; cbv))
 refine hK _ _ ?_;clear hK K;refine Z1u9 ?_;refine Z1ug ?_;refine Z1w8 false rfl ?_;refine Z1yu rfl ?_;refine Z1ug ?_;refine Z1ug ?_;refine Z1u5 ?_;refine Z1uw Z0 rfl fun K hK => ?_;cbv
 repeat (first | (refine ⟨Int.NonNeg.mk _, ?_⟩) | (refine Need.mk ⟨_, rfl, ?_⟩; cbv))
 refine FlatEq.mk ⟨[3, 0, 0, 0, 0, 0], [3, 0, 0, 0, 0, 0], rfl, rfl, rfl, rfl, ?_⟩;cbv;refine hK _ _ ?_;clear hK K;refine Z1u9 ?_;refine Z1w8 true rfl ?_;exact Z271 (fn := Tryz.f104) rfl rfl rfl Tryz.func104 rfl rfl rfl
end Go.Proofs.YtggilmnhgjofiaaGreat

namespace Go.Proofs.YtggilmnhgjofiaaGreat
open Go Go.Abs Go.Conc Go.Proofs
def seqL : Code -> Code
 | .seq x _ => x
 | c => c
def seqR : Code -> Code
 | .seq _ y => y
 | c => c
def inC : Code -> Code
 | .block _ c => c
 | .loop c => c
 | c => c
def opsC : Code -> Array Oper
 | .region _ ops _ => ops
 | _ => #[]
noncomputable def cB85 : Code := Tryz.f85.body.getD .skip
noncomputable def c85S : Code := seqR (seqR (seqR cB85))
noncomputable def c85L : Code := inC (inC (seqR (seqL (seqR c85S))))
noncomputable def c85E : Code := seqR (seqR c85S)
noncomputable def Z24k : Array Oper := opsC (seqL c85L)
noncomputable def Z1y3 : Array Oper := opsC (seqL (seqR (seqR cB85)))
theorem u195 : Tryz.prog.underlying 195 = some (.chan .both 174) := by kernel_rfl
theorem z174 (w : World) : (zeroValue 174).run Tryz.prog w = .ok (st6V 0) w := by
 obtain ⟨z, h1, h2⟩ := Zr3 (P := Tryz.prog) (w := w) (F := Fz.nil) (μ := ⟨fun _ => none, fun _ _ => False⟩) Z0 (t := 174) (e := ⟨6, 48, true, .agg [.v (.int .i64 0), .v (.int .i64 0), .v (.int .i64 0), .v (.int .i64 0), .v (.int .i64 0), .v (.int .i64 0)], some (some 6, 3), [], none, 9, true, none, some 6⟩) rfl;rw [h1, Z26o h2]
theorem cr6 (F : Fz) (n : Int) : CR F (st6 n) (st6V n) := .agg _ _ rfl (fun i c v h1 h2 => by
 match i, h1, h2 with
 | 0, h1, h2 => cases h1; cases h2; exact .v _ rfl
 | 1, h1, h2 => cases h1; cases h2; exact .v _ rfl
 | 2, h1, h2 => cases h1; cases h2; exact .v _ rfl
 | 3, h1, h2 => cases h1; cases h2; exact .v _ rfl
 | 4, h1, h2 => cases h1; cases h2; exact .v _ rfl
 | 5, h1, h2 => cases h1; cases h2; exact .v _ rfl) (fun i v h => by
 match i, h with
 | 0, h => cases h; rfl
 | 1, h => cases h; rfl
 | 2, h => cases h; rfl
 | 3, h => cases h; rfl
 | 4, h => cases h; rfl
 | 5, h => cases h; rfl)
theorem cr3 (F : Fz) : CR F (st6 3) (st6V 3) := cr6 F 3
def Z24l (N cb : Nat) (w₀ : World) (p6 : Value) (b : Frame) (k : List Item) (cs : List Frame) (fr : Frame) (cs' : List Frame) (w : World) : Prop :=
 cs' = cs /\ ∃ (O : Nat -> Prop) (F : Fz) (μ : Mu) (a : Act) (s : St), RL 0 F μ s a w /\ VisW N cb w₀ F μ s.H O w /\ fr = b.atR (a.put (some 13) (.tuple #[st6V 0, .bool false])) (.inRegion Z24k [1] :: .code (seqR c85L) :: .inLoop c85L :: .inBlock 0 :: .code c85E :: k) /\
  Z1c s.env 6 = some (.v p6) /\ Z1c s.env 8 = some (.b 0 0) /\ Z1m s.H 0 = some (.box (st6 3)) /\ s.nt = 18 /\ s.dfs = []
set_option maxRecDepth 40000 in
set_option maxHeartbeats 16000000 in
theorem Z23j (N cb : Nat) (w₀ : World) (p6 : Value) (b : Frame) (hb : b.roundOf = none) (k : List Item) (cs : List Frame) : AtI Tryz.prog true N cb w₀ (Z1w1 Tryz.prog N cb (st6V 0) (Z24l N cb w₀ p6 b k cs) [st6V 3]) b cs (.inRegion Z1y3 [] :: .code c85S :: k)
  { env := [(7, .cb (.v (.chan (some cb))) 0), (6, .v p6)], H := [], nt := 18, dfs := [] } := by
 refine Z1u9 ?_;refine Z1ug ?_;refine Z1u5 ?_;refine Z1uw Z0 hb fun K hK => ?_;cbv
 repeat (first | (refine ⟨Int.NonNeg.mk _, ?_⟩) | (refine Need.mk ⟨_, rfl, ?_⟩; cbv))
 refine hK _ _ ?_;clear hK K;refine Z1u9 ?_;refine Z1ug ?_;refine Z1ug ?_;refine Z1u5 ?_;refine Z1uw Z0 hb fun K hK => ?_;cbv
 repeat (first | (refine ⟨Int.NonNeg.mk _, ?_⟩) | (refine Need.mk ⟨_, rfl, ?_⟩; cbv))
 refine hK _ _ ?_;clear hK K;refine Z1u9 ?_;refine Z1vl ?_;refine Z1xe ?_;refine Z1ug ?_;refine Z1u5 ?_;refine Z25p (d := st6 3) hb rfl rfl rfl rfl rfl u195 z174 cr3 ?_;refine Z1uw Z0 hb fun K hK => ?_;cbv
 repeat (first | (refine ⟨Int.NonNeg.mk _, ?_⟩) | (refine Need.mk ⟨_, rfl, ?_⟩; cbv))
 refine hK _ _ ?_;clear hK K;refine Z1u9 ?_;refine Z1ug ?_;refine Z1w8 true rfl ?_;refine Z1yt ?_;refine Z1vl ?_;refine Z1ug ?_;refine Z1u5 ?_;refine Z1uw Z0 hb fun K hK => ?_;cbv
 repeat (first | (refine ⟨Int.NonNeg.mk _, ?_⟩) | (refine Need.mk ⟨_, rfl, ?_⟩; cbv))
 refine hK _ _ ?_;clear hK K;refine Z1u9 ?_;refine Z1u5 ?_;refine Z1uw Z0 hb fun K hK => ?_;cbv
 repeat (first | (refine ⟨Int.NonNeg.mk _, ?_⟩) | (refine Need.mk ⟨_, rfl, ?_⟩; cbv))
 refine hK _ _ ?_;clear hK K;refine Z1u9 ?_;refine Z1x0 ?_;refine Z1xf ?_;refine Z1ug ?_;refine Z1u5 ?_;refine Z24i hb rfl rfl rfl rfl u195 z174 fun O F μ a w h1 hv => ?_;exact ⟨rfl, O, F, μ, a, _, h1, hv, rfl, rfl, rfl, rfl, rfl, rfl⟩
end Go.Proofs.YtggilmnhgjofiaaGreat

namespace Go.Abs
open Go Go.Conc
section
variable {P : Program} {T : TT} {F F' : Fz} {μ : Mu} {H H' : List Blk} {w w' : World} {r : Option Nat} {m : Nat} {Q : AX -> St -> Prop} {s : St}
theorem HR.addF (h : HR F μ H w) (hm : ∀ b o v, F b o = some v -> F' b o = some v) (hn : ∀ b o v, F' b o = some v -> F b o = some v ∨ (w.cell? ⟨b, o, none⟩ = some v /\ ¬ Own μ H b)) : HR F' μ H w := by
 refine ⟨h.dom, fun k sz es hk hne => ?_, h.plain, fun k x hx hne => ?_, h.non, h.inj, h.lt, fun b o v hf => ?_, h.fr, h.kb⟩
 ·rcases h.row k sz es hk hne with h1 | ⟨b, m, c, t, h1, h2, h3, h4, h5⟩
  ·exact .inl h1
  ·exact .inr ⟨b, m, c, t, h1, h2, h3, h4, h5.mono hm (fun _ _ e => e)⟩
 ·exact (h.obj k x hx hne).frame hm (fun _ _ e => e) (fun _ => Iff.rfl) fun _ _ => rfl
 ·exact (hn b o v hf).elim (h.frz b o v) id
theorem HR.moved (h : HR F μ H w) (hs : w.heap.size <= w'.heap.size) (ho : ∀ b, Own μ H b -> w'.heap[b]? = w.heap[b]?) (hF : ∀ b o v, F b o = some v -> w'.heap[b]? = w.heap[b]?) : HR F μ H w' := by
 refine ⟨h.dom, fun k sz es hk hn => ?_, h.plain, fun k x hx hn => ?_, h.non, h.inj, fun b hb => Nat.lt_of_lt_of_le (h.lt b hb) hs, fun b o v hf => ?_, h.fr, fun b p hp => by cases hp⟩
 ·rcases h.row k sz es hk hn with h1 | ⟨b, m, c, t, h1, h2, h3⟩
  ·exact .inl h1
  ·exact .inr ⟨b, m, c, t, h1, by rw [ho b ⟨k, Z15 hk, .inl ⟨m, h1⟩⟩]; exact h2, h3⟩
 ·exact (h.obj k x hx hn).frame (fun _ _ _ e => e) (fun _ _ e => e) (fun _ => Iff.rfl) fun b hb => ho b ⟨k, Z2j hx, hb⟩
 ·obtain ⟨h1, h2⟩ := h.frz b o v hf;exact ⟨by rw [World.cell?_of_block (w := w) (hF b o v hf)]; exact h1, h2⟩
def muNo : Mu := ⟨fun _ => none, fun _ _ => False⟩
theorem Z228 {b : Nat} : ¬ Own muNo [] b := fun ⟨_, h, _⟩ => by simp [Z20] at h
theorem HR.nothing (h : HR F μ H w) : HR F muNo [] w :=
 ⟨fun _ _ => rfl, fun k sz es hk => by simp [Z17] at hk, fun k y hk => by simp [Z17] at hk, fun k x hk => by simp [Z13] at hk, fun _ _ _ h => h, fun k k' b hk => by simp [Z20] at hk, fun b hb => (Z228 hb).elim,
  fun b o v hf => ⟨(h.frz b o v hf).1, Z228⟩, fun k x hx => by simp at hx, fun b p hp => by cases hp⟩
theorem Z20q {b o : Nat} {v : Value} (h : w.cell? ⟨b, o, none⟩ = some v) : b < w.heap.size := by
 unfold World.cell? at h
 cases hb : w.heap[b]? with
 | none => simp [hb] at h
 | some x => exact (Array.getElem?_eq_some_iff.1 hb).1
theorem Z207 {b o cap s r : Nat} {buf : Array Value} {cl tm : Bool} {v : Value} (h : w.cell? ⟨b, o, none⟩ = some v) (hc : w.heap[b]? = some (.chan cap buf cl s r tm)) : False := by
 unfold World.cell? at h;simp [hc] at h
theorem Z23k {cb cap s r : Nat} {buf : Array Value} {cl tm : Bool} (h : HR F μ H w) (hc : w.heap[cb]? = some (.chan cap buf cl s r tm)) (d : Nat) : VisW w.heap.size cb w F muNo [] (fun _ => False) (w.at d) :=
 ⟨Nat.le_refl _, (Array.getElem?_eq_some_iff.1 hc).1, fun _ h => h.elim, fun b hb => (Z228 hb).elim, fun b o v hf => by
  have h1 := (h.frz b o v hf).1
  exact ⟨fun e => Z207 h1 (e ▸ hc), .inl (Z20q h1)⟩, Rl.at w d⟩
theorem Z26p {kc cb : Nat} (h : HR F μ H w) (hk : H[kc]? = some (.ob (.ch cb))) : μ kc = some (some (cb, 0)) /\ w.heap[cb]? = some (.chan 0 #[] false 0 0 false) /\ Own μ H cb := by
 obtain ⟨h1, h2, h3⟩ := h.obj kc (.ch cb) (Z19 hk) trivial;exact ⟨h1, h2, kc, Z2j (Z19 hk), .inl ⟨0, h1⟩⟩
theorem HR.behind {kc cb : Nat} (h : HR F μ H w) (hk : H[kc]? = some (.ob (.ch cb))) (hr : Rl w.heap.size cb (fun _ => False) w w') : HR F μ (H.set kc .dead) w' /\ Post F μ H w F μ (H.set kc .dead) w' := by
 obtain ⟨h1, h2, h3⟩ := Z26p h hk;have hlt := (List.getElem?_eq_some_iff.1 hk).1;obtain ⟨k1, k2⟩ := Zns h hlt;have hne : ∀ b, Own μ (H.set kc .dead) b -> b ≠ cb := fun b ⟨j, g1, g2⟩ e => by
  subst e;have hj : j ≠ kc := by
   rintro rfl;rw [Z6x (x := .dead) (by simp [hlt])] at g1
   cases g1
  have hlj : Z20 H j = true := by
   unfold Z20 at g1 ⊢;rw [List.getElem?_set, if_neg (fun e => hj e.symm)] at g1;exact g1
  exact hj (h.inj j kc b hlj (Z2j (Z19 hk)) g2 (.inl ⟨0, h1⟩))
 refine ⟨k1.moved hr.size (fun b hb => hr.old b (k1.lt b hb) (hne b hb)) fun b o v hf => hr.old b (Z20q (h.frz b o v hf).1) fun e => Z207 (h.frz b o v hf).1 (e ▸ h2), ⟨fun _ _ _ e => e, fun _ _ _ e => .inl e, hr.size, hr.tape, hr.os, hr.output, fun b hb ho => ⟨hr.old b hb fun e => ho (e ▸ h3), (k2.keep b hb ho).2⟩⟩⟩
theorem Z23l {b : Frame} {a : Act} {k : List Item} {cs : List Frame} {ops : Array Oper} {i : Nat} {l : List Nat} {o : Oper} {c : Operand} {ats : Array TypeId} {f : FuncId} {caps : Array Value} (hb : b.roundOf = none) (ho : ops[i]? = some o) (hg : o.guard = none) (hd : o.dst = none) (hop : o.op = .go { callee := .value c, args := #[], argTypes := ats })
  (hc : a.eval c = .func (.func f) #[] caps) (w : World) : stepG P true (G (b.atR a (.inRegion ops (i :: l) :: k)) cs) w = .spawn (G (b.atR a (.inRegion ops l :: k)) cs) (born P { target := .fn (.func f) caps, args := #[] }) w := by
 obtain ⟨dst, op, type, pos, after, guard⟩ := o;simp only at hg hd hop;subst hg hd hop;have hg' := Z1wa (P := P) (main := true) (b := b) (k := k) (cs := cs) (w := w) (rest := l) (a := a) ho rfl;rw [hb] at hg';rw [show (G (b.atR a (.inRegion ops (i :: l) :: k)) cs) = { frame := b.atR a (.inRegion ops (i :: l) :: k), callers := cs, status := .running, dying := none } from rfl, hg'];have hsem : (⟨none, .go { callee := .value c, args := #[], argTypes := ats }, type, pos, after, none⟩ : Oper).semAt none a.eval = execOp a.eval ⟨none, .go { callee := .value c, args := #[], argTypes := ats }, type, pos, after, none⟩ := rfl;rw [hsem];have hrun : (execOp a.eval ⟨none, .go { callee := .value c, args := #[], argTypes := ats }, type, pos, after, none⟩).run P w = .ok (.spawn { target := .fn (.func f) caps, args := #[] }) w := by
  simp [execOp, resolve, hc, Deferred.ofValue]
 have hev : (execOp a.eval ⟨none, .go { callee := .value c, args := #[], argTypes := ats }, type, pos, after, none⟩).events P w #[] = #[] := by
  simp [execOp, resolve, hc, Deferred.ofValue]
 have hf : (b.atR a (.inRegion ops (i :: l) :: k)).finish undef = b.atR a (.inRegion ops l :: k) := by
  rw [Frame.finish_atR, ho]; rfl
 rw [<- hf];simp [stepG.apply, hrun, hev, GStep.after, seen_none, born, G, Frame.atR]
theorem Z21g {x y : Code} (h : ∀ K : AX -> St -> Prop, (∀ s', WpA P r m y Q s' -> K .normal s') -> WpA P r m x K s) : WpA P r m (.seq x y) Q s := Znq (h _ fun _ hs => hs)
end
end Go.Abs

namespace Go.Proofs.YtggilmnhgjofiaaGreat
open Go Go.Abs Go.Conc Go.Proofs
theorem Z1yv {F : Fz} {μ : Mu} {s : St} {a : Act} (h : ER F μ s a) {t : Nat} {d : D} (ht : Z1c s.env t = some d) : ∃ v, a.tmps[t]? = some v /\ a.eval (.tmp t) = v /\ VR F μ d v := by
 obtain ⟨v, h1, h2⟩ := h.env t d ht;exact ⟨v, h1, by show a.tmps.getD t undef = v; rw [Array.getD_eq_getD_getElem?, h1]; rfl, h2⟩
theorem Z1wm {F : Fz} {μ μ' : Mu} {d : D} {v : Value} (h : VR F μ (.cb d 0) v) : VR F μ' (.cb d 0) v := by cases h with | cl _ _ h => exact .cl _ _ h
theorem Z273 {F : Fz} {μ : Mu} {f : FuncId} {cs : List D} {v : Value} (h : VR F μ (.fn f cs) v) : ∃ vs : Array Value, v = .func (.func f) #[] vs /\ cs.length = vs.size /\ ∀ (i : Nat) (c : D) (u : Value), cs[i]? = some c -> vs[i]? = some u -> VR F μ c u := by
 cases h with
 | cl _ _ h => cases h with | fn _ _ vs hl h => exact ⟨vs, rfl, hl, fun i c u a b => .cl _ _ (h i c u a b)⟩
 | fn _ _ vs hl h => exact ⟨vs, rfl, hl, h⟩
theorem Z229 {x6 x8 : D} {cb kc : Nat} {s : St} {F : Fz} {μ : Mu} {a : Act} {w : World} {p6 v : Value} (h1 : RL 0 F μ s a w) (hkc : s.H[kc]? = some (.ob (.ch cb))) (hnt : s.nt = 18) (hds : s.dfs = []) (e7 : Z1c s.env 7 = some (.cb (.v (.chan (some cb))) 0))
  (hp6 : a.tmps[6]? = some p6) (ho6 : p6.oneCell' = true) (hv : VR F μ (.fn 104 [.cb (.v (.chan (some cb))) 0, .cb hD 0, .cb (mD x6 x8) 0, .cb (I 3) 0]) v) (b : Frame) (hb : b.roundOf = none) (k : List Item) (cs : List Frame) (d : Nat) :
  Runs Tryz.prog (Z24l w.heap.size cb w p6 b k cs) (b.atR (a.put (some 11) v) (.inRegion Z1y3 [1] :: .code c85S :: k)) cs (w.at d) := by
 obtain ⟨hm, hch, -⟩ := Z26p h1.hr hkc;obtain ⟨caps, rfl, hcl, hcv⟩ := Z273 hv;have hsz : a.tmps.size = 18 := h1.er.nt.trans hnt;have hdef : a.defers = [] := by have := h1.er.dfs; rw [hds] at this; exact this
 have hvs := fun d' => Z23k h1.hr hch d';refine Runs.spawn (N := w.heap.size) (cb := cb) (z := st6V 0) (zc := .tuple #[]) (vs := [st6V 3]) (Nat.le_refl _) (Array.getElem?_eq_some_iff.1 hch).1 hch fun d' => ?_;have h11 : (a.put (some 11) (.func (.func 104) #[] caps)).eval (.tmp 11) = .func (.func 104) #[] caps := by
  show (a.tmps.setIfInBounds 11 _).getD 11 undef = _;rw [Array.getD_eq_getD_getElem?, Array.getElem?_setIfInBounds_self_of_lt (by omega)]; rfl
 refine ⟨_, cs, _, [], Z23l (c := .tmp 11) hb rfl rfl rfl rfl h11 _, ?_, ?_⟩
 ·refine Z23j w.heap.size cb w p6 b hb k cs (fun _ => False) F muNo (a.put (some 11) (.func (.func 104) #[] caps)) (w.at d') ⟨(h1.hr.at d').nothing, ⟨fun t x ht => ?_, ?_, hdef⟩, Nat.zero_le _⟩ (hvs d')
  ·simp only [Z1c] at ht;rw [Zo2]
   split at ht
   ·rename_i e; subst e; cases ht
    obtain ⟨v7, g1, -, g2⟩ := Z1yv h1.er e7;exact ⟨v7, by rw [if_neg (by simp)]; exact g1, Z1wm g2⟩
   ·split at ht
    ·rename_i e; subst e; cases ht
     exact ⟨p6, by rw [if_neg (by simp)]; exact hp6, .cl _ _ (.v _ ho6)⟩
    ·cases ht
  ·rw [Zk6]; exact hsz
 ·refine Z1y2 (w := w.at d') (fun _ h => h.elim) (fun w => Z226 (c := Z26n) Tryz.func104 rfl rfl w) fun w₁ hr => ?_;have hsz4 : caps.size = 4 := hcl.symm;refine Z24j x6 x8 w.heap.size cb w (fun _ => False) F muNo _ w₁ (RL.rl (s := { env := [(0, .cb (.v (.chan (some cb))) 0), (1, .cb hD 0), (2, .cb (mD x6 x8) 0), (3, .cb (I 3) 0)], H := [], nt := 74, dfs := [] }) ⟨(h1.hr.at d').nothing, ⟨fun t x ht => ?_, ?_, rfl⟩, Nat.zero_le _⟩ (hvs d') hr) ((hvs d').rl hr)
  ·have hget : ∀ (i : Nat) (c : D), i < 4 -> [D.cb (.v (.chan (some cb))) 0, .cb hD 0, .cb (mD x6 x8) 0, .cb (I 3) 0][i]? = some c -> (∀ u, VR F μ c u -> VR F muNo c u) -> ∃ u, (caps ++ Array.replicate (Tryz.f104.ntmps - caps.size) undef)[i]? = some u /\ VR F muNo c u := fun i c hi hc hcl' => by
    have hlt : i < caps.size := by omega
    exact ⟨caps[i], by rw [Array.getElem?_append_left hlt, Array.getElem?_eq_getElem hlt], hcl' _ (hcv i c _ hc (Array.getElem?_eq_getElem hlt))⟩
   simp only [Z1c] at ht
   split at ht
   ·rename_i e; subst e; cases ht; exact hget 0 _ (by omega) rfl fun _ => Z1wm
   ·split at ht
    ·rename_i e; subst e; cases ht; exact hget 1 _ (by omega) rfl fun _ => Z1wm
    ·split at ht
     ·rename_i e; subst e; cases ht; exact hget 2 _ (by omega) rfl fun _ => Z1wm
     ·split at ht
      ·rename_i e; subst e; cases ht; exact hget 3 _ (by omega) rfl fun _ => Z1wm
      ·cases ht
  ·rw [Array.size_append, Array.size_replicate, hsz4]; rfl
end Go.Proofs.YtggilmnhgjofiaaGreat

namespace Go.Proofs.YtggilmnhgjofiaaGreat
open Go Go.Abs Go.Conc Go.Proofs
theorem kp0 {μ μ' : Mu} {H H' : List Blk} : Kp 0 μ H μ' H' := ⟨fun i hi => absurd hi (by omega), fun i hi => absurd hi (by omega)⟩
theorem Z26q {F : Fz} {μ : Mu} {k : Nat} {v : Value} (h : VR F μ (.b k 0) v) : ∃ b m, μ k = some (some (b, m)) /\ v = .pointer (some ⟨b, 0, none⟩) := by
 cases h with
 | cl _ _ h => cases h
 | b _ _ b m h => exact ⟨b, m, h, rfl⟩
theorem Z208 (n : Int) : ∀ (r : Nat) (d : D), (st6 n).cells[r]? = some d -> r < 6 /\ ∃ i : Int, d = .v (.int .i64 i) := fun r d h => by
 have hlt : r < 6 := (List.getElem?_eq_some_iff.1 h).1;refine ⟨hlt, ?_⟩
 match r, h with
 | 0, h => cases h; exact ⟨_, rfl⟩
 | 1, h => cases h; exact ⟨_, rfl⟩
 | 2, h => cases h; exact ⟨_, rfl⟩
 | 3, h => cases h; exact ⟨_, rfl⟩
 | 4, h => cases h; exact ⟨_, rfl⟩
 | 5, h => cases h; exact ⟨_, rfl⟩
theorem Z24m {cb k6 kc : Nat} {s : St} {F : Fz} {μ : Mu} {a : Act} {w w' : World} {p6 : Value} {b : Frame} {k : List Item} {cs : List Frame} {fr : Frame} {cs' : List Frame} (h1 : RL 0 F μ s a w) (hkc : s.H[kc]? = some (.ob (.ch cb)))
  (hp : VR F μ (.b k6 0) p6) (hf : Z24l w.heap.size cb w p6 b k cs fr cs' w') :
  cs' = cs /\ ∃ (F6 : Fz) (a6 : Act), fr = b.atR a6 (.inRegion Z24k [1] :: .code (seqR c85L) :: .inLoop c85L :: .inBlock 0 :: .code c85E :: k) /\ Post F μ s.H w F6 μ (s.H.set kc .dead) w' /\
   RL 0 F6 μ { env := [(6, .b k6 0), (8, .cb (st6 3) 0), (13, .tup [st6 0, .v (.bool false)])], H := s.H.set kc .dead, nt := 18, dfs := [] } a6 w' := by
 obtain ⟨rfl, O, F5, μ5, a5, s5, g1, g2, rfl, q6, q8, qH, qnt, qds⟩ := hf;obtain ⟨hb1, hb2⟩ := h1.hr.behind hkc g2.base;obtain ⟨v8, t8, -, r8⟩ := Z1yv g1.er q8;obtain ⟨b8, m8, hμ8, rfl⟩ := Z26q r8;obtain ⟨v6, t6, -, r6⟩ := Z1yv g1.er q6;obtain rfl := r6.v_inv;have hown8 : O b8 := g2.own b8 ⟨0, Z15 (Z7c qH), .inl ⟨_, hμ8⟩⟩;have hge8 := (g2.ge b8 hown8).1;rcases g1.hr.row 0 _ _ (Z7c qH) (by rw [hμ8]; simp) with ⟨e1, -⟩ | ⟨b', m', c, t, e1, hw, hcs, hsz, hc⟩
 ·rw [hμ8] at e1; cases e1
 rw [hμ8] at e1; cases e1;have hcell : ∀ (r : Nat) (d : D), (st6 3).cells[r]? = some d -> ∃ u, c[r]? = some u /\ u.oneCell' = true /\ CR F d u := fun r d hd => by
  obtain ⟨u, k1, k2, k3⟩ := (hc 0 (st6 3) rfl).2 r d hd;obtain ⟨-, i, rfl⟩ := Z208 3 r d hd;obtain rfl := k3.v_inv;exact ⟨_, by simpa using k1, rfl, .v _ rfl⟩
 let F6 : Fz := ⟨fun b o => if b = b8 /\ o < 6 then c[o]? else F b o, trivial⟩
 have hlt : ∀ b o v, F b o = some v -> b < w.heap.size := fun b o v h => Z20q (h1.hr.frz b o v h).1;have hmono : ∀ b o v, F b o = some v -> F6 b o = some v := fun b o v h => by
  show (if b = b8 /\ o < 6 then c[o]? else F b o) = some v;rw [if_neg (by rintro ⟨rfl, -⟩; have := hlt _ _ _ h; omega)]; exact h
 have hnew : ∀ b o v, F6 b o = some v -> F b o = some v ∨ (b = b8 /\ w'.cell? ⟨b, o, none⟩ = some v) := fun b o v h => by
  change (if b = b8 /\ o < 6 then c[o]? else F b o) = some v at h
  split at h
  ·rename_i hh
   obtain ⟨rfl, -⟩ := hh;exact .inr ⟨rfl, by simp [World.cell?, hw, h]⟩
  ·exact .inl h
 have hr6 := hb1.addF hmono fun b o v h => (hnew b o v h).imp id fun ⟨e, h⟩ => ⟨h, fun ho => by
  subst e
  have hlt2 : b < w.heap.size := by
   by_cases ho' : Own μ s.H b
   ·exact h1.hr.lt b ho'
   ·rcases Nat.lt_or_ge b w.heap.size with h | h
    ·exact h
    ·obtain ⟨j, j1, j2⟩ := ho
     have : Own μ s.H b := ⟨j, by
      unfold Z20 at j1 ⊢
      by_cases e : kc = j
      ·subst e
       rw [List.getElem?_set_self (List.getElem?_eq_some_iff.1 hkc).1] at j1
       cases j1
      ·rw [List.getElem?_set_ne e] at j1; exact j1, j2⟩
     exact absurd this ho'
  omega⟩
 have hsz5 : a5.tmps.size = 18 := g1.er.nt.trans qnt;have hd5 : a5.defers = [] := by have := g1.er.dfs; rw [qds] at this; exact this
 refine ⟨rfl, F6, a5.put (some 13) (.tuple #[st6V 0, .bool false]), rfl, ⟨hmono, fun b o v h => (hnew b o v h).imp id fun ⟨e, _⟩ => .inr (e ▸ hge8), hb2.size, hb2.tape, hb2.os, hb2.output, hb2.keep⟩, hr6, ⟨fun t x ht => ?_, by rw [Zk6]; exact hsz5, by rw [Zo3, hd5]; rfl⟩, Nat.zero_le _⟩;simp only [Z1c] at ht;rw [Zo2]
 split at ht
 ·rename_i e; subst e; cases ht
  exact ⟨_, by rw [if_neg (by simp)]; exact t6, hp.mono hmono (fun _ _ e => e)⟩
 ·split at ht
  ·rename_i e; subst e; cases ht
   refine ⟨_, by rw [if_neg (by simp)]; exact t8, .cl _ _ ?_⟩;have : CR F6 (.cb (st6 3) 0) (.pointer (some ⟨b8, 0 + 0, none⟩)) := .cb _ b8 0 0 (fun r => c.getD r undef) (fun r d hd => by
    obtain ⟨u, k1, k2, -⟩ := hcell r d hd
    have hr6 := (Z208 3 r d hd).1
    refine ⟨?_, by rw [Array.getD_eq_getD_getElem?, k1]; exact k2⟩
    show (if b8 = b8 /\ 0 + r < 6 then c[0 + r]? else F b8 (0 + r)) = _
    rw [if_pos ⟨rfl, by omega⟩, Nat.zero_add, Array.getD_eq_getD_getElem?, k1]; rfl) (fun r d hd => by
    obtain ⟨u, k1, -, k3⟩ := hcell r d hd
    rw [Array.getD_eq_getD_getElem?, k1]; exact k3.mono hmono)
   exact this
  ·split at ht
   ·rename_i e; subst e; cases ht
    exact ⟨_, by rw [if_pos ⟨rfl, by omega⟩], .cl _ _ (.tup _ _ rfl fun i c x h1 h2 => by
     match i, h1, h2 with
     | 0, h1, h2 => cases h1; cases h2; exact cr6 _ 0
     | 1, h1, h2 => cases h1; cases h2; exact .v _ rfl)⟩
   ·cases ht
end Go.Proofs.YtggilmnhgjofiaaGreat

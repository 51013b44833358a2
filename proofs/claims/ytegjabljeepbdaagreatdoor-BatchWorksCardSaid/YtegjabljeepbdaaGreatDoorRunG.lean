/- Part RunG of the proofs about the benches of the accordion maker: see the last text of the claim for what is proved. -/
import Derived.Test.YtegjabljeepbdaaGreatDoorProg
import Derived.KernelRfl
import Derived.Test.YtegjabljeepbdaaGreatDoorRunF
set_option linter.unusedVariables false
set_option linter.unusedSimpArgs false
set_option linter.unnecessarySimpa false
set_option linter.constructorNameAsVariable false

namespace Go.Proofs.YtegjabljeepbdaaGreatDoor
open Go Go.Abs Go.Proofs
def TDl : List (Nat × TE) := [
 (3, ⟨1, 8, false, .v (.int .i64 0), none, [], some .i64, 10, true, none, some 1⟩),
 (40, ⟨3, 56, true, .agg [.v (.int .i64 0), .v (.slice none 0 0), .v (.slice none 0 0)], none, [(0, 1, 0), (1, 1, 0), (2, 1, 0)], none, 8, true, none, none⟩),
 (22, ⟨1, 24, false, .v (.slice none 0 0), some (none, 3), [], none, 3, true, none, none⟩),
 (27, ⟨2, 32, true, .agg [.v (.int .i64 0), .v (.slice none 0 0)], none, [(0, 1, 0), (1, 1, 0)], none, 8, true, none, none⟩),
 (38, ⟨1, 24, false, .v (.slice none 0 0), some (none, 44), [], none, 3, true, none, none⟩),
 (33, ⟨2, 16, true, .agg [.v (.int .i64 0), .v (.int .i64 0)], none, [(0, 1, 0), (1, 1, 0)], none, 8, true, none, some 2⟩),
 (25, ⟨1, 24, false, .v (.slice none 0 0), some (none, 31), [], none, 3, true, none, none⟩),
 (44, ⟨5, 40, true, .agg [.v (.int .i64 0), .v (.int .i64 0), .v (.int .i64 0), .v (.int .i64 0), .v (.int .i64 0)], none, [(0, 1, 0), (1, 1, 0), (2, 1, 0), (3, 2, 1)], none, 8, true, none, some 5⟩),
 (31, ⟨3, 40, true, .agg [.v (.int .i64 0), .v (.int .i64 0), .v (.slice none 0 0)], none, [(0, 1, 0), (1, 1, 0), (2, 1, 0)], none, 8, true, none, none⟩),
 (29, ⟨1, 24, false, .v (.slice none 0 0), some (none, 35), [], none, 3, true, none, none⟩),
 (64, ⟨1, 24, false, .v (.slice none 0 0), some (none, 68), [], none, 3, true, none, none⟩),
 (68, ⟨7, 56, true, .agg [.v (.int .i64 0), .v (.int .i64 0), .v (.int .i64 0), .v (.int .i64 0), .v (.int .i64 0), .v (.int .i64 0), .v (.int .i64 0)], none, [(0, 1, 0), (1, 1, 0), (2, 1, 0), (3, 2, 1), (5, 2, 1)], none, 8, true, none, some 7⟩),
 (4, ⟨1, 1, false, .v (.bool false), none, [], none, 1, true, none, none⟩),
 (23, ⟨1, 8, false, .v (.pointer none), none, [], none, 5, true, none, none⟩),
 (37, ⟨1, 24, false, .v (.slice none 0 0), some (none, 4), [], none, 3, true, none, none⟩),
 (45, ⟨1, 8, false, .v (.int .i64 0), none, [], some .i64, 10, true, none, some 1⟩),
 (35, ⟨3, 24, true, .agg [.v (.int .i64 0), .v (.int .i64 0), .v (.int .i64 0)], none, [(0, 1, 0), (1, 2, 1)], none, 8, true, none, some 3⟩),
 (120, ⟨5, 40, true, .agg [.v (.int .i64 0), .v (.int .i64 0), .v (.int .i64 0), .v (.int .i64 0), .v (.int .i64 0)], none, [(0, 4, 1), (4, 1, 0)], none, 8, true, none, some 5⟩),
 (109, ⟨5, 88, true, .agg [.v (.int .i64 0), .v (.slice none 0 0), .v (.slice none 0 0), .v (.slice none 0 0), .v (.nilFunc)], none, [(0, 3, 1), (3, 1, 0), (4, 1, 0)], none, 8, true, none, none⟩),
 (51, ⟨1, 24, false, .v (.slice none 0 0), some (none, 22), [], none, 3, true, none, none⟩),
 (88, ⟨1, 8, false, .v (.int .u64 0), none, [], some .u64, 10, true, none, none⟩),
 (103, ⟨1, 8, false, .v (.map none), none, [], none, 4, true, some (120, 4), none⟩),
 (56, ⟨1, 24, false, .v (.slice none 0 0), some (none, 33), [], none, 3, true, none, none⟩),
 (173, ⟨4, 32, true, .agg [.v (.int .i64 0), .v (.int .i64 0), .v (.int .i64 0), .v (.int .i64 0)], some (some 4, 3), [], none, 9, true, none, some 4⟩),
 (107, ⟨1, 8, false, .v (.nilFunc), none, [], none, 6, true, none, none⟩),
 (147, ⟨1, 8, false, .v (.int .i64 0), none, [], some .i64, 10, true, none, some 1⟩),
 (97, ⟨1, 8, false, .v (.nilFunc), none, [], none, 6, true, none, none⟩),
 (91, ⟨1, 8, false, .v (.int .u64 0), none, [], some .u64, 10, true, none, none⟩),
 (118, ⟨4, 32, true, .agg [.v (.int .i64 0), .v (.int .i64 0), .v (.int .i64 0), .v (.int .i64 0)], some (some 4, 3), [], none, 9, true, none, some 4⟩),
 (183, ⟨3, 40, true, .agg [.v (.nilFunc), .v (.bool false), .v (.slice none 0 0)], none, [(0, 1, 0), (1, 1, 0), (2, 1, 0)], none, 8, true, none, none⟩),
 (135, ⟨2, 32, true, .agg [.v (.int .i64 0), .v (.slice none 0 0)], none, [(0, 1, 0), (1, 1, 0)], none, 8, true, none, none⟩),
 (171, ⟨2, 16, true, .agg [.v (.nilFunc), .v (.nilFunc)], none, [(0, 1, 0), (1, 1, 0)], none, 8, true, none, none⟩),
 (189, ⟨1, 24, false, .v (.slice none 0 0), some (none, 192), [], none, 3, true, none, none⟩),
 (90, ⟨1, 8, true, .agg [.v (.int .u64 0)], none, [(0, 1, 0)], none, 8, true, none, none⟩),
 (196, ⟨5, 40, true, .agg [.v (.int .i64 0), .v (.int .i64 0), .v (.int .i64 0), .v (.int .i64 0), .v (.int .i64 0)], none, [(0, 5, 1)], none, 8, true, none, some 5⟩),
 (72, ⟨1, 24, false, .v (.slice none 0 0), some (none, 135), [], none, 3, true, none, none⟩),
 (127, ⟨3, 56, true, .agg [.v (.int .i64 0), .v (.slice none 0 0), .v (.slice none 0 0)], none, [(0, 2, 1), (2, 1, 0)], none, 8, true, none, none⟩),
 (160, ⟨1, 8, true, .agg [.v (.int .i64 0)], none, [(0, 1, 0)], none, 8, true, none, some 1⟩),
 (175, ⟨11, 88, true, .agg [.v (.int .i64 0), .v (.int .i64 0), .v (.int .i64 0), .v (.int .i64 0), .v (.int .i64 0), .v (.int .i64 0), .v (.int .i64 0), .v (.int .i64 0), .v (.int .i64 0), .v (.int .i64 0), .v (.int .i64 0)], none, [(0, 3, 1), (3, 4, 1), (7, 4, 1)], none, 8, true, none, some 11⟩),
 (194, ⟨6, 48, true, .agg [.v (.int .i64 0), .v (.int .i64 0), .v (.int .i64 0), .v (.int .i64 0), .v (.int .i64 0), .v (.int .i64 0)], none, [(0, 5, 1), (5, 1, 0)], none, 8, true, none, some 6⟩),
 (199, ⟨5, 40, true, .agg [.v (.int .i64 0), .v (.int .i64 0), .v (.int .i64 0), .v (.int .i64 0), .v (.int .i64 0)], none, [(0, 5, 1)], none, 8, true, none, some 5⟩),
 (192, ⟨1, 16, false, .v (.nilIface), none, [], none, 7, true, none, none⟩),
 (116, ⟨1, 8, false, .v (.nilFunc), none, [], none, 6, true, none, none⟩),
 (75, ⟨1, 24, false, .v (.slice none 0 0), some (none, 40), [], none, 3, true, none, none⟩),
 (143, ⟨0, 0, true, .agg [], none, [], none, 8, true, none, some 0⟩),
 (76, ⟨1, 24, false, .v (.slice none 0 0), some (none, 27), [], none, 3, true, none, none⟩),
 (99, ⟨1, 8, true, .agg [.v (.nilFunc)], none, [(0, 1, 0)], none, 8, true, none, none⟩),
 (184, ⟨1, 8, false, .v (.nilFunc), none, [], none, 6, true, none, none⟩),
 (203, ⟨1, 8, false, .v (.nilFunc), none, [], none, 6, true, none, none⟩),
 (20, ⟨1, 16, false, .v (.nilIface), none, [], none, 7, true, none, none⟩),
 (138, ⟨1, 8, false, .v (.nilFunc), none, [], none, 6, true, none, none⟩),
 (158, ⟨1, 8, false, .v (.nilFunc), none, [], none, 6, true, none, none⟩),
 (166, ⟨1, 8, false, .v (.map none), none, [], none, 4, true, some (3, 3), none⟩),
 (167, ⟨1, 24, false, .v (.slice none 0 0), some (none, 171), [], none, 3, true, none, none⟩),
 (9, ⟨1, 16, false, .v (.string ⟨#[]⟩), none, [], none, 2, true, none, none⟩),
 (62, ⟨1, 8, false, .v (.nilFunc), none, [], none, 6, true, none, none⟩),
 (169, ⟨1, 8, false, .v (.nilFunc), none, [], none, 6, true, none, none⟩),
 (172, ⟨3, 24, true, .agg [.v (.int .i64 0), .v (.int .i64 0), .v (.int .i64 0)], some (some 3, 3), [], none, 9, true, none, some 3⟩),
 (177, ⟨1, 8, false, .v (.pointer none), none, [], none, 5, true, none, none⟩),
 (218, ⟨1, 8, false, .v (.nilFunc), none, [], none, 6, true, none, none⟩),
 (114, ⟨1, 8, false, .v (.nilFunc), none, [], none, 6, true, none, none⟩),
 (155, ⟨1, 8, false, .v (.nilFunc), none, [], none, 6, true, none, none⟩),
 (163, ⟨1, 16, false, .v (.nilIface), none, [], none, 7, true, none, none⟩),
 (165, ⟨1, 8, false, .v (.pointer none), none, [], none, 5, true, none, none⟩),
 (181, ⟨1, 8, false, .v (.nilFunc), none, [], none, 6, true, none, none⟩)]
def TD (n : Nat) : Option TE := lkp TDl n
theorem te3 : Z3c Tryz.prog 3 = some ⟨1, 8, false, .v (.int .i64 0), none, [], some .i64, 10, true, none, some 1⟩ /\ zsB Tryz.prog 3 = true := ⟨by kernel_rfl, by kernel_rfl⟩
theorem Zzb : Z3c Tryz.prog 40 = some ⟨3, 56, true, .agg [.v (.int .i64 0), .v (.slice none 0 0), .v (.slice none 0 0)], none, [(0, 1, 0), (1, 1, 0), (2, 1, 0)], none, 8, true, none, none⟩ /\ zsB Tryz.prog 40 = true := ⟨by kernel_rfl, by kernel_rfl⟩
theorem Zz6 : Z3c Tryz.prog 22 = some ⟨1, 24, false, .v (.slice none 0 0), some (none, 3), [], none, 3, true, none, none⟩ /\ zsB Tryz.prog 22 = true := ⟨by kernel_rfl, by kernel_rfl⟩
theorem Zz2 : Z3c Tryz.prog 27 = some ⟨2, 32, true, .agg [.v (.int .i64 0), .v (.slice none 0 0)], none, [(0, 1, 0), (1, 1, 0)], none, 8, true, none, none⟩ /\ zsB Tryz.prog 27 = true := ⟨by kernel_rfl, by kernel_rfl⟩
theorem te38 : Z3c Tryz.prog 38 = some ⟨1, 24, false, .v (.slice none 0 0), some (none, 44), [], none, 3, true, none, none⟩ /\ zsB Tryz.prog 38 = true := ⟨by kernel_rfl, by kernel_rfl⟩
theorem Zz7 : Z3c Tryz.prog 33 = some ⟨2, 16, true, .agg [.v (.int .i64 0), .v (.int .i64 0)], none, [(0, 1, 0), (1, 1, 0)], none, 8, true, none, some 2⟩ /\ zsB Tryz.prog 33 = true := ⟨by kernel_rfl, by kernel_rfl⟩
theorem Zyz : Z3c Tryz.prog 25 = some ⟨1, 24, false, .v (.slice none 0 0), some (none, 31), [], none, 3, true, none, none⟩ /\ zsB Tryz.prog 25 = true := ⟨by kernel_rfl, by kernel_rfl⟩
theorem te44 : Z3c Tryz.prog 44 = some ⟨5, 40, true, .agg [.v (.int .i64 0), .v (.int .i64 0), .v (.int .i64 0), .v (.int .i64 0), .v (.int .i64 0)], none, [(0, 1, 0), (1, 1, 0), (2, 1, 0), (3, 2, 1)], none, 8, true, none, some 5⟩ /\ zsB Tryz.prog 44 = true := ⟨by kernel_rfl, by kernel_rfl⟩
theorem te31 : Z3c Tryz.prog 31 = some ⟨3, 40, true, .agg [.v (.int .i64 0), .v (.int .i64 0), .v (.slice none 0 0)], none, [(0, 1, 0), (1, 1, 0), (2, 1, 0)], none, 8, true, none, none⟩ /\ zsB Tryz.prog 31 = true := ⟨by kernel_rfl, by kernel_rfl⟩
theorem Zz1 : Z3c Tryz.prog 29 = some ⟨1, 24, false, .v (.slice none 0 0), some (none, 35), [], none, 3, true, none, none⟩ /\ zsB Tryz.prog 29 = true := ⟨by kernel_rfl, by kernel_rfl⟩
theorem te64 : Z3c Tryz.prog 64 = some ⟨1, 24, false, .v (.slice none 0 0), some (none, 68), [], none, 3, true, none, none⟩ /\ zsB Tryz.prog 64 = true := ⟨by kernel_rfl, by kernel_rfl⟩
theorem te68 : Z3c Tryz.prog 68 = some ⟨7, 56, true, .agg [.v (.int .i64 0), .v (.int .i64 0), .v (.int .i64 0), .v (.int .i64 0), .v (.int .i64 0), .v (.int .i64 0), .v (.int .i64 0)], none, [(0, 1, 0), (1, 1, 0), (2, 1, 0), (3, 2, 1), (5, 2, 1)], none, 8, true, none, some 7⟩ /\ zsB Tryz.prog 68 = true := ⟨by kernel_rfl, by kernel_rfl⟩
theorem te4 : Z3c Tryz.prog 4 = some ⟨1, 1, false, .v (.bool false), none, [], none, 1, true, none, none⟩ /\ zsB Tryz.prog 4 = true := ⟨by kernel_rfl, by kernel_rfl⟩
theorem Zz3 : Z3c Tryz.prog 23 = some ⟨1, 8, false, .v (.pointer none), none, [], none, 5, true, none, none⟩ /\ zsB Tryz.prog 23 = true := ⟨by kernel_rfl, by kernel_rfl⟩
theorem te37 : Z3c Tryz.prog 37 = some ⟨1, 24, false, .v (.slice none 0 0), some (none, 4), [], none, 3, true, none, none⟩ /\ zsB Tryz.prog 37 = true := ⟨by kernel_rfl, by kernel_rfl⟩
theorem te45 : Z3c Tryz.prog 45 = some ⟨1, 8, false, .v (.int .i64 0), none, [], some .i64, 10, true, none, some 1⟩ /\ zsB Tryz.prog 45 = true := ⟨by kernel_rfl, by kernel_rfl⟩
theorem Zzd : Z3c Tryz.prog 35 = some ⟨3, 24, true, .agg [.v (.int .i64 0), .v (.int .i64 0), .v (.int .i64 0)], none, [(0, 1, 0), (1, 2, 1)], none, 8, true, none, some 3⟩ /\ zsB Tryz.prog 35 = true := ⟨by kernel_rfl, by kernel_rfl⟩
theorem Zxo : Z3c Tryz.prog 120 = some ⟨5, 40, true, .agg [.v (.int .i64 0), .v (.int .i64 0), .v (.int .i64 0), .v (.int .i64 0), .v (.int .i64 0)], none, [(0, 4, 1), (4, 1, 0)], none, 8, true, none, some 5⟩ /\ zsB Tryz.prog 120 = true := ⟨by kernel_rfl, by kernel_rfl⟩
theorem Z19l : Z3c Tryz.prog 109 = some ⟨5, 88, true, .agg [.v (.int .i64 0), .v (.slice none 0 0), .v (.slice none 0 0), .v (.slice none 0 0), .v (.nilFunc)], none, [(0, 3, 1), (3, 1, 0), (4, 1, 0)], none, 8, true, none, none⟩ /\ zsB Tryz.prog 109 = true := ⟨by kernel_rfl, by kernel_rfl⟩
theorem te51 : Z3c Tryz.prog 51 = some ⟨1, 24, false, .v (.slice none 0 0), some (none, 22), [], none, 3, true, none, none⟩ /\ zsB Tryz.prog 51 = true := ⟨by kernel_rfl, by kernel_rfl⟩
theorem te88 : Z3c Tryz.prog 88 = some ⟨1, 8, false, .v (.int .u64 0), none, [], some .u64, 10, true, none, none⟩ /\ zsB Tryz.prog 88 = true := ⟨by kernel_rfl, by kernel_rfl⟩
theorem Zxr : Z3c Tryz.prog 103 = some ⟨1, 8, false, .v (.map none), none, [], none, 4, true, some (120, 4), none⟩ /\ zsB Tryz.prog 103 = true := ⟨by kernel_rfl, by kernel_rfl⟩
theorem te56 : Z3c Tryz.prog 56 = some ⟨1, 24, false, .v (.slice none 0 0), some (none, 33), [], none, 3, true, none, none⟩ /\ zsB Tryz.prog 56 = true := ⟨by kernel_rfl, by kernel_rfl⟩
theorem Z19m : Z3c Tryz.prog 173 = some ⟨4, 32, true, .agg [.v (.int .i64 0), .v (.int .i64 0), .v (.int .i64 0), .v (.int .i64 0)], some (some 4, 3), [], none, 9, true, none, some 4⟩ /\ zsB Tryz.prog 173 = true := ⟨by kernel_rfl, by kernel_rfl⟩
theorem Zy3 : Z3c Tryz.prog 107 = some ⟨1, 8, false, .v (.nilFunc), none, [], none, 6, true, none, none⟩ /\ zsB Tryz.prog 107 = true := ⟨by kernel_rfl, by kernel_rfl⟩
theorem Z19n : Z3c Tryz.prog 147 = some ⟨1, 8, false, .v (.int .i64 0), none, [], some .i64, 10, true, none, some 1⟩ /\ zsB Tryz.prog 147 = true := ⟨by kernel_rfl, by kernel_rfl⟩
theorem te97 : Z3c Tryz.prog 97 = some ⟨1, 8, false, .v (.nilFunc), none, [], none, 6, true, none, none⟩ /\ zsB Tryz.prog 97 = true := ⟨by kernel_rfl, by kernel_rfl⟩
theorem te91 : Z3c Tryz.prog 91 = some ⟨1, 8, false, .v (.int .u64 0), none, [], some .u64, 10, true, none, none⟩ /\ zsB Tryz.prog 91 = true := ⟨by kernel_rfl, by kernel_rfl⟩
theorem Zxv : Z3c Tryz.prog 118 = some ⟨4, 32, true, .agg [.v (.int .i64 0), .v (.int .i64 0), .v (.int .i64 0), .v (.int .i64 0)], some (some 4, 3), [], none, 9, true, none, some 4⟩ /\ zsB Tryz.prog 118 = true := ⟨by kernel_rfl, by kernel_rfl⟩
theorem Z19o : Z3c Tryz.prog 183 = some ⟨3, 40, true, .agg [.v (.nilFunc), .v (.bool false), .v (.slice none 0 0)], none, [(0, 1, 0), (1, 1, 0), (2, 1, 0)], none, 8, true, none, none⟩ /\ zsB Tryz.prog 183 = true := ⟨by kernel_rfl, by kernel_rfl⟩
theorem Z19p : Z3c Tryz.prog 135 = some ⟨2, 32, true, .agg [.v (.int .i64 0), .v (.slice none 0 0)], none, [(0, 1, 0), (1, 1, 0)], none, 8, true, none, none⟩ /\ zsB Tryz.prog 135 = true := ⟨by kernel_rfl, by kernel_rfl⟩
theorem Z19q : Z3c Tryz.prog 171 = some ⟨2, 16, true, .agg [.v (.nilFunc), .v (.nilFunc)], none, [(0, 1, 0), (1, 1, 0)], none, 8, true, none, none⟩ /\ zsB Tryz.prog 171 = true := ⟨by kernel_rfl, by kernel_rfl⟩
theorem Z19r : Z3c Tryz.prog 189 = some ⟨1, 24, false, .v (.slice none 0 0), some (none, 192), [], none, 3, true, none, none⟩ /\ zsB Tryz.prog 189 = true := ⟨by kernel_rfl, by kernel_rfl⟩
theorem te90 : Z3c Tryz.prog 90 = some ⟨1, 8, true, .agg [.v (.int .u64 0)], none, [(0, 1, 0)], none, 8, true, none, none⟩ /\ zsB Tryz.prog 90 = true := ⟨by kernel_rfl, by kernel_rfl⟩
theorem Z19s : Z3c Tryz.prog 196 = some ⟨5, 40, true, .agg [.v (.int .i64 0), .v (.int .i64 0), .v (.int .i64 0), .v (.int .i64 0), .v (.int .i64 0)], none, [(0, 5, 1)], none, 8, true, none, some 5⟩ /\ zsB Tryz.prog 196 = true := ⟨by kernel_rfl, by kernel_rfl⟩
theorem Zza : Z3c Tryz.prog 72 = some ⟨1, 24, false, .v (.slice none 0 0), some (none, 135), [], none, 3, true, none, none⟩ /\ zsB Tryz.prog 72 = true := ⟨by kernel_rfl, by kernel_rfl⟩
theorem Z19t : Z3c Tryz.prog 127 = some ⟨3, 56, true, .agg [.v (.int .i64 0), .v (.slice none 0 0), .v (.slice none 0 0)], none, [(0, 2, 1), (2, 1, 0)], none, 8, true, none, none⟩ /\ zsB Tryz.prog 127 = true := ⟨by kernel_rfl, by kernel_rfl⟩
theorem Z19u : Z3c Tryz.prog 160 = some ⟨1, 8, true, .agg [.v (.int .i64 0)], none, [(0, 1, 0)], none, 8, true, none, some 1⟩ /\ zsB Tryz.prog 160 = true := ⟨by kernel_rfl, by kernel_rfl⟩
theorem Z19v : Z3c Tryz.prog 175 = some ⟨11, 88, true, .agg [.v (.int .i64 0), .v (.int .i64 0), .v (.int .i64 0), .v (.int .i64 0), .v (.int .i64 0), .v (.int .i64 0), .v (.int .i64 0), .v (.int .i64 0), .v (.int .i64 0), .v (.int .i64 0), .v (.int .i64 0)], none, [(0, 3, 1), (3, 4, 1), (7, 4, 1)], none, 8, true, none, some 11⟩ /\ zsB Tryz.prog 175 = true := ⟨by kernel_rfl, by kernel_rfl⟩
theorem Z19w : Z3c Tryz.prog 194 = some ⟨6, 48, true, .agg [.v (.int .i64 0), .v (.int .i64 0), .v (.int .i64 0), .v (.int .i64 0), .v (.int .i64 0), .v (.int .i64 0)], none, [(0, 5, 1), (5, 1, 0)], none, 8, true, none, some 6⟩ /\ zsB Tryz.prog 194 = true := ⟨by kernel_rfl, by kernel_rfl⟩
theorem Z19x : Z3c Tryz.prog 199 = some ⟨5, 40, true, .agg [.v (.int .i64 0), .v (.int .i64 0), .v (.int .i64 0), .v (.int .i64 0), .v (.int .i64 0)], none, [(0, 5, 1)], none, 8, true, none, some 5⟩ /\ zsB Tryz.prog 199 = true := ⟨by kernel_rfl, by kernel_rfl⟩
theorem Z19y : Z3c Tryz.prog 192 = some ⟨1, 16, false, .v (.nilIface), none, [], none, 7, true, none, none⟩ /\ zsB Tryz.prog 192 = true := ⟨by kernel_rfl, by kernel_rfl⟩
theorem Zy1 : Z3c Tryz.prog 116 = some ⟨1, 8, false, .v (.nilFunc), none, [], none, 6, true, none, none⟩ /\ zsB Tryz.prog 116 = true := ⟨by kernel_rfl, by kernel_rfl⟩
theorem Zz8 : Z3c Tryz.prog 75 = some ⟨1, 24, false, .v (.slice none 0 0), some (none, 40), [], none, 3, true, none, none⟩ /\ zsB Tryz.prog 75 = true := ⟨by kernel_rfl, by kernel_rfl⟩
theorem Z19z : Z3c Tryz.prog 143 = some ⟨0, 0, true, .agg [], none, [], none, 8, true, none, some 0⟩ /\ zsB Tryz.prog 143 = true := ⟨by kernel_rfl, by kernel_rfl⟩
theorem te76 : Z3c Tryz.prog 76 = some ⟨1, 24, false, .v (.slice none 0 0), some (none, 27), [], none, 3, true, none, none⟩ /\ zsB Tryz.prog 76 = true := ⟨by kernel_rfl, by kernel_rfl⟩
theorem te99 : Z3c Tryz.prog 99 = some ⟨1, 8, true, .agg [.v (.nilFunc)], none, [(0, 1, 0)], none, 8, true, none, none⟩ /\ zsB Tryz.prog 99 = true := ⟨by kernel_rfl, by kernel_rfl⟩
theorem Z1a0 : Z3c Tryz.prog 184 = some ⟨1, 8, false, .v (.nilFunc), none, [], none, 6, true, none, none⟩ /\ zsB Tryz.prog 184 = true := ⟨by kernel_rfl, by kernel_rfl⟩
theorem Z1a1 : Z3c Tryz.prog 203 = some ⟨1, 8, false, .v (.nilFunc), none, [], none, 6, true, none, none⟩ /\ zsB Tryz.prog 203 = true := ⟨by kernel_rfl, by kernel_rfl⟩
theorem Zzg : Z3c Tryz.prog 20 = some ⟨1, 16, false, .v (.nilIface), none, [], none, 7, true, none, none⟩ /\ zsB Tryz.prog 20 = true := ⟨by kernel_rfl, by kernel_rfl⟩
theorem Z1a2 : Z3c Tryz.prog 138 = some ⟨1, 8, false, .v (.nilFunc), none, [], none, 6, true, none, none⟩ /\ zsB Tryz.prog 138 = true := ⟨by kernel_rfl, by kernel_rfl⟩
theorem Z1a3 : Z3c Tryz.prog 158 = some ⟨1, 8, false, .v (.nilFunc), none, [], none, 6, true, none, none⟩ /\ zsB Tryz.prog 158 = true := ⟨by kernel_rfl, by kernel_rfl⟩
theorem Z1a4 : Z3c Tryz.prog 166 = some ⟨1, 8, false, .v (.map none), none, [], none, 4, true, some (3, 3), none⟩ /\ zsB Tryz.prog 166 = true := ⟨by kernel_rfl, by kernel_rfl⟩
theorem Z1a5 : Z3c Tryz.prog 167 = some ⟨1, 24, false, .v (.slice none 0 0), some (none, 171), [], none, 3, true, none, none⟩ /\ zsB Tryz.prog 167 = true := ⟨by kernel_rfl, by kernel_rfl⟩
theorem te9 : Z3c Tryz.prog 9 = some ⟨1, 16, false, .v (.string ⟨#[]⟩), none, [], none, 2, true, none, none⟩ /\ zsB Tryz.prog 9 = true := ⟨by kernel_rfl, by kernel_rfl⟩
theorem te62 : Z3c Tryz.prog 62 = some ⟨1, 8, false, .v (.nilFunc), none, [], none, 6, true, none, none⟩ /\ zsB Tryz.prog 62 = true := ⟨by kernel_rfl, by kernel_rfl⟩
theorem Z1a6 : Z3c Tryz.prog 169 = some ⟨1, 8, false, .v (.nilFunc), none, [], none, 6, true, none, none⟩ /\ zsB Tryz.prog 169 = true := ⟨by kernel_rfl, by kernel_rfl⟩
theorem Z1a7 : Z3c Tryz.prog 172 = some ⟨3, 24, true, .agg [.v (.int .i64 0), .v (.int .i64 0), .v (.int .i64 0)], some (some 3, 3), [], none, 9, true, none, some 3⟩ /\ zsB Tryz.prog 172 = true := ⟨by kernel_rfl, by kernel_rfl⟩
theorem Z1a8 : Z3c Tryz.prog 177 = some ⟨1, 8, false, .v (.pointer none), none, [], none, 5, true, none, none⟩ /\ zsB Tryz.prog 177 = true := ⟨by kernel_rfl, by kernel_rfl⟩
theorem Z1a9 : Z3c Tryz.prog 218 = some ⟨1, 8, false, .v (.nilFunc), none, [], none, 6, true, none, none⟩ /\ zsB Tryz.prog 218 = true := ⟨by kernel_rfl, by kernel_rfl⟩
theorem Z1aa : Z3c Tryz.prog 114 = some ⟨1, 8, false, .v (.nilFunc), none, [], none, 6, true, none, none⟩ /\ zsB Tryz.prog 114 = true := ⟨by kernel_rfl, by kernel_rfl⟩
theorem Zy0 : Z3c Tryz.prog 155 = some ⟨1, 8, false, .v (.nilFunc), none, [], none, 6, true, none, none⟩ /\ zsB Tryz.prog 155 = true := ⟨by kernel_rfl, by kernel_rfl⟩
theorem Z1ab : Z3c Tryz.prog 163 = some ⟨1, 16, false, .v (.nilIface), none, [], none, 7, true, none, none⟩ /\ zsB Tryz.prog 163 = true := ⟨by kernel_rfl, by kernel_rfl⟩
theorem Zy4 : Z3c Tryz.prog 165 = some ⟨1, 8, false, .v (.pointer none), none, [], none, 5, true, none, none⟩ /\ zsB Tryz.prog 165 = true := ⟨by kernel_rfl, by kernel_rfl⟩
theorem Z1ac : Z3c Tryz.prog 181 = some ⟨1, 8, false, .v (.nilFunc), none, [], none, 6, true, none, none⟩ /\ zsB Tryz.prog 181 = true := ⟨by kernel_rfl, by kernel_rfl⟩
theorem Z0 : TOK Tryz.prog TD := Zwk (fun _ => rfl) (
 ⟨te3, Zzb, Zz6, Zz2, te38, Zz7, Zyz, te44, te31, Zz1, te64, te68, te4, Zz3, te37, te45, Zzd, Zxo, Z19l, te51, te88, Zxr, te56, Z19m, Zy3, Z19n, te97, te91, Zxv, Z19o, Z19p, Z19q, Z19r, te90, Z19s, Zza, Z19t, Z19u, Z19v, Z19w, Z19x, Z19y, Zy1, Zz8, Z19z, te76, te99, Z1a0, Z1a1, Zzg, Z1a2, Z1a3, Z1a4, Z1a5, te9, te62, Z1a6, Z1a7, Z1a8, Z1a9, Z1aa, Zy0, Z1ab, Zy4, Z1ac, trivial⟩) (by kernel_rfl)
end Go.Proofs.YtegjabljeepbdaaGreatDoor

namespace Go.Proofs.YtegjabljeepbdaaGreatDoor
open Go Go.Abs Go.Proofs
def I (x : Int) : D := .v (.int .i64 x)
def IL (l : List Int) : D := .sl 1 (l.map I)
theorem Zdh {n : Int} (h : -9223372036854775808 <= n /\ n <= 9223372036854775807) : IntKind.i64.wrap n = n := by rw [IntKind.wrap_i64]; omega
theorem Zzh (L : List D) (hL : L.length <= 1048576) (Q) (hq : ∀ n, n = L.length -> Q (RA.ret (.o 0 1 n)) [.els 1 L]) :
  CallA Tryz.prog 29 [.sl 1 L] [] Q := by
 obtain ⟨A, hA⟩ : ∃ A, A = ar := ⟨_, rfl⟩;refine Z5 Z0 hA Tryz.func29 rfl rfl rfl rfl rfl fun S hS => ?_;cbv;subst hA;refine ⟨rfl, by simp [ar]; omega, ?_⟩;refine Z2 [1] (by decide) (fun i hi => absurd hi (by simp)) (H' := [.els 1 L]) (d' := .o 0 1 L.length) ⟨Zra rfl rfl, trivial⟩ ?_ (Z1 (hq _ rfl));simp [renD, ar]; rfl
end Go.Proofs.YtegjabljeepbdaaGreatDoor

namespace Go.Proofs.YtegjabljeepbdaaGreatDoor
open Go Go.Abs Go.Proofs
def U (x : Int) : D := .v (.int .u64 x)
end Go.Proofs.YtegjabljeepbdaaGreatDoor

namespace Go.Proofs.YtegjabljeepbdaaGreatDoor
open Go Go.Abs Go.Proofs
def pot (x : Int) : Blk := .box (.agg [U x])
theorem Zws (n : Int) : 0 <= IntKind.u64.wrap n := by
 have : IntKind.u64.wrap n = n % 18446744073709551616 := rfl;rw [this]; exact Int.emod_nonneg _ (by decide)
theorem Zwt (x y : Int) : 0 <= ar.bits .xor .u64 x y := Zws _
theorem Zbu {n : Int} (h : -9223372036854775808 <= n /\ n <= 9223372036854775807) : ar.fits .i64 n := Zdh h
theorem Zvb {n : Int} (h : 0 <= n) : ar.nneg n := h
theorem step (x : Int) (Q) (hq : ∀ y x', 0 <= y -> Q (RA.ret (U y)) [pot x']) : CallA Tryz.prog 78 [.b 0 0] [pot x] Q := by
 obtain ⟨A, hA⟩ : ∃ A, A = ar := ⟨_, rfl⟩;refine Z5 Z0 hA Tryz.func78 rfl rfl rfl rfl rfl fun S hS => ?_;cbv;refine ⟨by subst hA; exact Zvb (by decide), by subst hA; exact Zvb (by decide), by subst hA; exact Zvb (by decide), Z1 (hq _ _ ?_)⟩;subst hA; exact Zwt _ _
theorem Zj0 (x most : Int) (hm : most <= 1000000000000) (Q) (hq : ∀ n x', 0 <= n -> (n <= most ∨ n = 0) -> Q (RA.ret (I n)) [pot x']) : CallA Tryz.prog 39 [.b 0 0, I most] [pot x] Q := by
 obtain ⟨A, hA⟩ : ∃ A, A = ar := ⟨_, rfl⟩;refine Z5 Z0 hA Tryz.func39 rfl rfl rfl rfl rfl fun S hS => ?_;cbv
 split
 ·cbv;exact Z1 (hq 0 x (by omega) (.inr rfl))
 ·rename_i hc
  cbv;refine Z4 hS [.b 0 0] [0] [pot x] rfl rfl rfl rfl rfl rfl rfl rfl (by decide) ⟨rfl, trivial⟩ (step x _ fun y x' hy => ?_);refine Z3 Z0 hA hS ?_;cbv;subst hA;have hlt : 1 <= most := by simp [ar, Z25] at hc; omega
  refine ⟨Zvb (by decide), Zbu (by simp [ar]; omega), by
   show IntKind.u64.wrap (most + 1) ≠ 0
   have : IntKind.u64.wrap (most + 1) = (most + 1) % 18446744073709551616 := rfl
   rw [this, Int.emod_eq_of_lt (by omega) (by omega)]; omega, Z1 (hq _ x' ?_ (.inl ?_))⟩
  all_goals
   have e : ar.wrap .i64 (ar.rem (ar.shift .shr .u64 y 11) (ar.wrap .u64 (ar.add most 1))) = (y.fdiv (2 ^ 11)).tmod (most + 1) := by
    have e1 : IntKind.u64.wrap (most + 1) = most + 1 := by
     have : IntKind.u64.wrap (most + 1) = (most + 1) % 18446744073709551616 := rfl;rw [this, Int.emod_eq_of_lt (by omega) (by omega)]
    have h1 : 0 <= y.fdiv (2 ^ 11) := Int.fdiv_nonneg hy (by decide);have h2 := Int.tmod_nonneg (most + 1) h1;have h3 := Int.tmod_lt_of_pos (y.fdiv (2 ^ 11)) (show 0 < most + 1 by omega);show IntKind.i64.wrap ((y.fdiv (2 ^ 11)).tmod (IntKind.u64.wrap (most + 1))) = _;rw [e1];exact Zdh ⟨by omega, by omega⟩
   have h1 : 0 <= y.fdiv (2 ^ 11) := Int.fdiv_nonneg hy (by decide);have h2 := Int.tmod_nonneg (most + 1) h1;have h3 := Int.tmod_lt_of_pos (y.fdiv (2 ^ 11)) (show 0 < most + 1 by omega)
   first
   | exact le_of_le_of_eq h2 e.symm
   | exact le_of_eq_of_le e (by omega)
theorem Zn3 (x least most : Int) (hm : -1000000000 <= least /\ least <= 1000000000 /\ -1000000000 <= most /\ most <= 1000000000) (Q) (hq : ∀ n x', least <= n -> (n <= most ∨ n = least) -> Q (RA.ret (I n)) [pot x']) : CallA Tryz.prog 10 [.b 0 0, I least, I most] [pot x] Q := by
 obtain ⟨A, hA⟩ : ∃ A, A = ar := ⟨_, rfl⟩;refine Z5 Z0 hA Tryz.func10 rfl rfl rfl rfl rfl fun S hS => ?_;cbv;refine ⟨by subst hA; exact Zbu (by simp [ar]; omega), ?_⟩;refine Z4 hS [.b 0 0, I (A.sub most least)] [0] [pot x] rfl rfl rfl rfl rfl rfl rfl rfl (by decide) ⟨rfl, trivial⟩ (Zj0 x _ (by subst hA; simp [ar]; omega) _ fun n x' h1 h2 => ?_);refine Z3 Z0 hA hS ?_;cbv;subst hA
 replace h1 : 0 <= n := h1
 replace h2 : n <= most - least ∨ n = 0 := h2
 exact ⟨Zbu (by simp [ar]; omega), Z1 (hq (least + n) x' (by omega) (by omega))⟩
theorem Zvc (x n m : Int) (hm : 0 <= m /\ m <= 1000000000) (Q) (hq : ∀ b x', Q (RA.ret (.v (.bool b))) [pot x']) : CallA Tryz.prog 9 [.b 0 0, I n, I m] [pot x] Q := by
 obtain ⟨A, hA⟩ : ∃ A, A = ar := ⟨_, rfl⟩;refine Z5 Z0 hA Tryz.func9 rfl rfl rfl rfl rfl fun S hS => ?_;cbv;refine ⟨by subst hA; exact Zbu (by simp [ar]; omega), ?_⟩;refine Z4 hS [.b 0 0, I (A.sub m 1)] [0] [pot x] rfl rfl rfl rfl rfl rfl rfl rfl (by decide) ⟨rfl, trivial⟩ (Zj0 x _ (by subst hA; simp [ar]; omega) _ fun n x' h1 h2 => ?_);refine Z3 Z0 hA hS ?_;cbv;exact Z1 (hq _ x')
theorem of_ (x : Int) (L : List D) (l : List Int) (hL : L = l.map I) (hl : l.length <= 1000) (hl0 : l ≠ []) (Q) (hq : ∀ n x', n ∈ l -> Q (RA.ret (I n)) [pot x']) : CallA Tryz.prog 40 [.b 0 0, .sl 1 L] [pot x] Q := by
 obtain ⟨A, hA⟩ : ∃ A, A = ar := ⟨_, rfl⟩;have hlen : L.length = l.length := by rw [hL]; simp
 have hpos : 0 < l.length := List.length_pos_iff.2 hl0;refine Z5 Z0 hA Tryz.func40 rfl rfl rfl rfl rfl fun S hS => ?_;cbv
 split
 ·rename_i hc
  exfalso; subst hA
  replace hc : ((L.length : Int) == 0) = true := hc
  have := eq_of_beq hc;omega
 ·cbv;refine ⟨by subst hA; exact Zbu (n := (L.length : Int) - 1) (by omega), ?_⟩;refine Z4 hS [.b 0 0, I (A.sub (A.oi (A.len L)) 1)] [0] [pot x] rfl rfl rfl rfl rfl rfl rfl rfl (by decide) ⟨rfl, trivial⟩ (Zj0 x _ (by subst hA; show (L.length : Int) - 1 <= _; omega) _ fun n x' h1 h2 => ?_);refine Z3 Z0 hA hS ?_;cbv;have h2' : n < l.length := by
   subst hA
   replace h2 : n <= (L.length : Int) - 1 ∨ n = 0 := h2
   omega
  replace h1 : 0 <= n := h1
  obtain ⟨k, rfl⟩ := Int.eq_ofNat_of_zero_le h1;have hk : k < l.length := by omega
  obtain ⟨z, hz⟩ : ∃ z, z = l[k] := ⟨_, rfl⟩;refine ⟨by subst hA; show 0 <= (k : Int) /\ (k : Int) < (L.length : Nat); omega, ⟨I z, by subst hA; simp [ar, hL, hk, hz], ?_⟩⟩;cbv;exact Z1 (hq _ x' (hz ▸ List.getElem_mem hk))
end Go.Proofs.YtegjabljeepbdaaGreatDoor

namespace Go.Proofs.YtegjabljeepbdaaGreatDoor
open Go Go.Abs Go.Proofs
theorem Zwu (x n least most wide : Int) (hn : -100000 <= least /\ least <= n /\ n <= most /\ most <= 100000) (hw : 0 <= wide /\ wide <= 100000) (Q)
  (hq : ∀ lo hi x', least <= lo -> lo <= n -> n <= hi -> hi <= most -> (wide = 0 -> lo = n /\ hi = n) -> Q (RA.ret (.agg [I lo, I hi])) [pot x']) :
  CallA Tryz.prog 11 [.b 0 0, I n, I least, I most, I wide] [pot x] Q := by
 obtain ⟨A, hA⟩ : ∃ A, A = ar := ⟨_, rfl⟩;refine Z5 Z0 hA Tryz.func11 rfl rfl rfl rfl rfl fun S hS => ?_;cbv;refine Z4 hS [.b 0 0, I wide] [0] [pot x] rfl rfl rfl rfl rfl rfl rfl rfl (by decide) ⟨rfl, trivial⟩ (Zj0 x _ (by omega) _ fun a xa ha1 ha2 => ?_);refine Z3 Z0 hA hS ?_;cbv;refine Z26 hS (Z1a hA [2] ?_);cbv;refine ⟨by subst hA; rfl, Z7 ?_⟩;refine Z4 hS [.b 0 0, .sl 1 [I 0, I 0, I a]] [0] [pot xa] rfl rfl rfl rfl rfl rfl rfl rfl (by decide) ⟨rfl, trivial⟩ (of_ xa _ [0, 0, a] rfl (Nat.le_of_ble_eq_true rfl) (by simp) _ fun o xo ho => ?_);have ho' : 0 <= o /\ (o <= wide ∨ o = 0) := by simp at ho; omega
 refine Z3 Z0 hA hS ?_;cbv;refine ⟨by subst hA; exact Zbu (n := n - o) (by omega), ?_⟩;refine Z4 hS [.b 0 0, I wide] [0] [pot xo] rfl rfl rfl rfl rfl rfl rfl rfl (by decide) ⟨rfl, trivial⟩ (Zj0 xo _ (by omega) _ fun c xc hc1 hc2 => ?_);refine Z3 Z0 hA hS ?_;cbv;refine Z26 hS (Z1a hA [3] ?_);cbv;refine ⟨by subst hA; rfl, Z7 ?_⟩;refine Z4 hS [.b 0 0, .sl 1 [I 0, I 0, I c]] [0] [pot xc] rfl rfl rfl rfl rfl rfl rfl rfl (by decide) ⟨rfl, trivial⟩ (of_ xc _ [0, 0, c] rfl (Nat.le_of_ble_eq_true rfl) (by simp) _ fun p xp hp => ?_);have hp' : 0 <= p /\ (p <= wide ∨ p = 0) := by simp at hp; omega
 refine Z3 Z0 hA hS ?_;cbv;subst hA;refine ⟨Zbu (n := n + p) (by omega), Z2 [0] (by decide) (by decide) (H' := [pot xp]) (d' := .agg [I (if n - o > least then n - o else least), I (if n + p < most then n + p else most)]) ⟨rfl, trivial⟩ rfl (Z1 (hq _ _ xp ?_ ?_ ?_ ?_ (fun h => ⟨?_, ?_⟩)))⟩
 all_goals split <;> omega
end Go.Proofs.YtegjabljeepbdaaGreatDoor

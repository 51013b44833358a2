/- Part TyAT of the proofs about the benches of the accordion maker: see the last text of the claim for what is proved. -/
import Derived.Test.YthljpccegkmdnaaGreatDoorProg
import Derived.KernelRfl
import Derived.Test.YthljpccegkmdnaaGreatDoorRows
import Derived.ChangeSame
import Derived.ChangeVars
import Derived.ChangeSlices
import Derived.JoinedOf
import Derived.RowKit
import Derived.RowKitTokens
import Derived.LaidLaws
import Derived.LaidHandle
import Derived.Carry
import Derived.Stop.Joined
import Derived.Test.YthljpccegkmdnaaGreatDoorTyAP
import Derived.Test.YthljpccegkmdnaaGreatDoorTyAQ
import Derived.Test.YthljpccegkmdnaaGreatDoorTyAR
import Derived.Test.YthljpccegkmdnaaGreatDoorTyAS
set_option linter.unusedVariables false
set_option linter.unusedSimpArgs false
set_option linter.unnecessarySimpa false
set_option linter.constructorNameAsVariable false

namespace Go.Proofs.YthljpccegkmdnaaGreatDoor
open Go Go.Abs Go.Proofs
def TDl : List (Nat × TE) := [
 (3, ⟨1, 8, false, .v (.int .i64 0), none, [], some .i64, 10, true, none, some 1⟩),
 (25, ⟨3, 56, true, .agg [.v (.int .i64 0), .v (.slice none 0 0), .v (.slice none 0 0)], none, [(0, 1, 0), (1, 1, 0), (2, 1, 0)], none, 8, true, none, none⟩),
 (9, ⟨1, 16, false, .v (.string ⟨#[]⟩), none, [], none, 2, true, none, none⟩),
 (44, ⟨1, 24, false, .v (.slice none 0 0), some (none, 3), [], none, 3, true, none, none⟩),
 (64, ⟨2, 32, true, .agg [.v (.int .i64 0), .v (.slice none 0 0)], none, [(0, 1, 0), (1, 1, 0)], none, 8, true, none, none⟩),
 (31, ⟨5, 40, true, .agg [.v (.int .i64 0), .v (.int .i64 0), .v (.int .i64 0), .v (.int .i64 0), .v (.int .i64 0)], none, [(0, 1, 0), (1, 1, 0), (2, 1, 0), (3, 2, 1)], none, 8, true, none, some 5⟩),
 (61, ⟨3, 40, true, .agg [.v (.int .i64 0), .v (.int .i64 0), .v (.slice none 0 0)], none, [(0, 1, 0), (1, 1, 0), (2, 1, 0)], none, 8, true, none, none⟩),
 (23, ⟨1, 24, false, .v (.slice none 0 0), some (none, 31), [], none, 3, true, none, none⟩),
 (28, ⟨2, 16, true, .agg [.v (.int .i64 0), .v (.int .i64 0)], none, [(0, 1, 0), (1, 1, 0)], none, 8, true, none, some 2⟩),
 (74, ⟨1, 24, false, .v (.slice none 0 0), some (none, 9), [], none, 3, true, none, none⟩),
 (4, ⟨1, 1, false, .v (.bool false), none, [], none, 1, true, none, none⟩),
 (62, ⟨1, 24, false, .v (.slice none 0 0), some (none, 61), [], none, 3, true, none, none⟩),
 (33, ⟨1, 8, false, .v (.int .i64 0), none, [], some .i64, 10, true, none, some 1⟩),
 (58, ⟨3, 24, true, .agg [.v (.int .i64 0), .v (.int .i64 0), .v (.int .i64 0)], none, [(0, 1, 0), (1, 2, 1)], none, 8, true, none, some 3⟩),
 (59, ⟨1, 24, false, .v (.slice none 0 0), some (none, 58), [], none, 3, true, none, none⟩),
 (127, ⟨7, 56, true, .agg [.v (.int .i64 0), .v (.int .i64 0), .v (.int .i64 0), .v (.int .i64 0), .v (.int .i64 0), .v (.int .i64 0), .v (.int .i64 0)], none, [(0, 1, 0), (1, 1, 0), (2, 1, 0), (3, 2, 1), (5, 2, 1)], none, 8, true, none, some 7⟩),
 (22, ⟨1, 24, false, .v (.slice none 0 0), some (none, 4), [], none, 3, true, none, none⟩),
 (103, ⟨5, 40, true, .agg [.v (.int .i64 0), .v (.int .i64 0), .v (.int .i64 0), .v (.int .i64 0), .v (.int .i64 0)], none, [(0, 4, 1), (4, 1, 0)], none, 8, true, none, some 5⟩),
 (123, ⟨1, 24, false, .v (.slice none 0 0), some (none, 127), [], none, 3, true, none, none⟩),
 (248, ⟨7, 56, true, .agg [.v (.int .i64 0), .v (.int .i64 0), .v (.int .i64 0), .v (.int .i64 0), .v (.int .i64 0), .v (.int .i64 0), .v (.int .i64 0)], none, [(0, 7, 1)], none, 8, true, none, some 7⟩),
 (97, ⟨5, 88, true, .agg [.v (.int .i64 0), .v (.slice none 0 0), .v (.slice none 0 0), .v (.slice none 0 0), .v (.nilFunc)], none, [(0, 3, 1), (3, 1, 0), (4, 1, 0)], none, 8, true, none, none⟩),
 (246, ⟨1, 24, false, .v (.slice none 0 0), some (none, 248), [], none, 3, true, none, none⟩),
 (71, ⟨1, 8, false, .v (.pointer none), none, [], none, 5, true, none, none⟩),
 (39, ⟨1, 24, false, .v (.slice none 0 0), some (none, 44), [], none, 3, true, none, none⟩),
 (35, ⟨1, 24, false, .v (.slice none 0 0), some (none, 28), [], none, 3, true, none, none⟩),
 (149, ⟨1, 8, false, .v (.int .u64 0), none, [], some .u64, 10, true, none, none⟩),
 (5, ⟨1, 1, false, .v (.int .u8 0), none, [], some .u8, 10, true, none, none⟩),
 (91, ⟨1, 8, false, .v (.map none), none, [], none, 4, true, some (103, 4), none⟩),
 (152, ⟨1, 8, false, .v (.int .u64 0), none, [], some .u64, 10, true, none, none⟩),
 (183, ⟨3, 56, true, .agg [.v (.int .i64 0), .v (.slice none 0 0), .v (.slice none 0 0)], none, [(0, 2, 1), (2, 1, 0)], none, 8, true, none, none⟩),
 (238, ⟨4, 32, true, .agg [.v (.int .i64 0), .v (.int .i64 0), .v (.int .i64 0), .v (.int .i64 0)], some (some 4, 3), [], none, 9, true, none, some 4⟩),
 (95, ⟨1, 8, false, .v (.nilFunc), none, [], none, 6, true, none, none⟩),
 (200, ⟨4, 32, true, .agg [.v (.int .i64 0), .v (.int .i64 0), .v (.int .i64 0), .v (.int .i64 0)], none, [(0, 1, 0), (1, 1, 0), (2, 1, 0), (3, 1, 0)], none, 8, true, none, some 4⟩),
 (110, ⟨1, 8, false, .v (.int .i64 0), none, [], some .i64, 10, true, none, some 1⟩),
 (128, ⟨1, 8, false, .v (.nilFunc), none, [], none, 6, true, none, none⟩),
 (101, ⟨4, 32, true, .agg [.v (.int .i64 0), .v (.int .i64 0), .v (.int .i64 0), .v (.int .i64 0)], some (some 4, 3), [], none, 9, true, none, some 4⟩),
 (119, ⟨3, 40, true, .agg [.v (.nilFunc), .v (.bool false), .v (.slice none 0 0)], none, [(0, 1, 0), (1, 1, 0), (2, 1, 0)], none, 8, true, none, none⟩),
 (250, ⟨1, 8, false, .v (.nilFunc), none, [], none, 6, true, none, none⟩),
 (165, ⟨2, 32, true, .agg [.v (.int .i64 0), .v (.slice none 0 0)], none, [(0, 1, 0), (1, 1, 0)], none, 8, true, none, none⟩),
 (214, ⟨1, 24, false, .v (.slice none 0 0), some (none, 217), [], none, 3, true, none, none⟩),
 (236, ⟨2, 16, true, .agg [.v (.nilFunc), .v (.nilFunc)], none, [(0, 1, 0), (1, 1, 0)], none, 8, true, none, none⟩),
 (151, ⟨1, 8, true, .agg [.v (.int .u64 0)], none, [(0, 1, 0)], none, 8, true, none, none⟩),
 (221, ⟨5, 40, true, .agg [.v (.int .i64 0), .v (.int .i64 0), .v (.int .i64 0), .v (.int .i64 0), .v (.int .i64 0)], none, [(0, 5, 1)], none, 8, true, none, some 5⟩),
 (82, ⟨1, 24, false, .v (.slice none 0 0), some (none, 165), [], none, 3, true, none, none⟩),
 (196, ⟨2, 16, true, .agg [.v (.int .i64 0), .v (.int .i64 0)], none, [(0, 1, 0), (1, 1, 0)], none, 8, true, none, some 2⟩),
 (219, ⟨6, 48, true, .agg [.v (.int .i64 0), .v (.int .i64 0), .v (.int .i64 0), .v (.int .i64 0), .v (.int .i64 0), .v (.int .i64 0)], none, [(0, 5, 1), (5, 1, 0)], none, 8, true, none, some 6⟩),
 (224, ⟨5, 40, true, .agg [.v (.int .i64 0), .v (.int .i64 0), .v (.int .i64 0), .v (.int .i64 0), .v (.int .i64 0)], none, [(0, 5, 1)], none, 8, true, none, some 5⟩),
 (227, ⟨1, 8, true, .agg [.v (.int .i64 0)], none, [(0, 1, 0)], none, 8, true, none, some 1⟩),
 (231, ⟨1, 8, false, .v (.map none), none, [], none, 4, true, some (3, 3), none⟩),
 (240, ⟨11, 88, true, .agg [.v (.int .i64 0), .v (.int .i64 0), .v (.int .i64 0), .v (.int .i64 0), .v (.int .i64 0), .v (.int .i64 0), .v (.int .i64 0), .v (.int .i64 0), .v (.int .i64 0), .v (.int .i64 0), .v (.int .i64 0)], none, [(0, 3, 1), (3, 4, 1), (7, 4, 1)], none, 8, true, none, some 11⟩),
 (198, ⟨1, 24, false, .v (.slice none 0 0), some (none, 200), [], none, 3, true, none, none⟩),
 (217, ⟨1, 16, false, .v (.nilIface), none, [], none, 7, true, none, none⟩),
 (105, ⟨1, 8, false, .v (.nilFunc), none, [], none, 6, true, none, none⟩),
 (194, ⟨1, 8, false, .v (.map none), none, [], none, 4, true, some (196, 3), none⟩),
 (175, ⟨0, 0, true, .agg [], none, [], none, 8, true, none, some 0⟩),
 (73, ⟨1, 24, false, .v (.slice none 0 0), some (none, 64), [], none, 3, true, none, none⟩),
 (85, ⟨1, 24, false, .v (.slice none 0 0), some (none, 25), [], none, 3, true, none, none⟩),
 (121, ⟨1, 8, false, .v (.nilFunc), none, [], none, 6, true, none, none⟩),
 (130, ⟨1, 8, true, .agg [.v (.nilFunc)], none, [(0, 1, 0)], none, 8, true, none, none⟩),
 (154, ⟨1, 24, false, .v (.slice none 0 0), some (none, 5), [], none, 3, true, none, none⟩),
 (253, ⟨1, 8, false, .v (.nilFunc), none, [], none, 6, true, none, none⟩),
 (20, ⟨1, 16, false, .v (.nilIface), none, [], none, 7, true, none, none⟩),
 (179, ⟨1, 8, false, .v (.nilFunc), none, [], none, 6, true, none, none⟩),
 (193, ⟨1, 8, false, .v (.nilFunc), none, [], none, 6, true, none, none⟩),
 (207, ⟨1, 16, false, .v (.nilIface), none, [], none, 7, true, none, none⟩),
 (232, ⟨1, 24, false, .v (.slice none 0 0), some (none, 236), [], none, 3, true, none, none⟩),
 (168, ⟨1, 8, false, .v (.pointer none), none, [], none, 5, true, none, none⟩),
 (234, ⟨1, 8, false, .v (.nilFunc), none, [], none, 6, true, none, none⟩),
 (237, ⟨3, 24, true, .agg [.v (.int .i64 0), .v (.int .i64 0), .v (.int .i64 0)], some (some 3, 3), [], none, 9, true, none, some 3⟩),
 (242, ⟨1, 8, false, .v (.pointer none), none, [], none, 5, true, none, none⟩),
 (252, ⟨1, 8, false, .v (.nilFunc), none, [], none, 6, true, none, none⟩),
 (266, ⟨1, 8, false, .v (.nilFunc), none, [], none, 6, true, none, none⟩),
 (21, ⟨1, 4, false, .v (.int .i32 0), none, [], some .i32, 10, true, none, none⟩),
 (109, ⟨1, 8, false, .v (.nilFunc), none, [], none, 6, true, none, none⟩),
 (117, ⟨1, 8, false, .v (.nilFunc), none, [], none, 6, true, none, none⟩),
 (190, ⟨1, 8, false, .v (.nilFunc), none, [], none, 6, true, none, none⟩),
 (230, ⟨1, 8, false, .v (.pointer none), none, [], none, 5, true, none, none⟩)]
def TD (n : Nat) : Option TE := lkp TDl n
theorem te3 : Z3c Tryz.prog 3 = some ⟨1, 8, false, .v (.int .i64 0), none, [], some .i64, 10, true, none, some 1⟩ /\ zsB Tryz.prog 3 = true := ⟨by kernel_rfl, by kernel_rfl⟩
theorem Zyz : Z3c Tryz.prog 25 = some ⟨3, 56, true, .agg [.v (.int .i64 0), .v (.slice none 0 0), .v (.slice none 0 0)], none, [(0, 1, 0), (1, 1, 0), (2, 1, 0)], none, 8, true, none, none⟩ /\ zsB Tryz.prog 25 = true := ⟨by kernel_rfl, by kernel_rfl⟩
theorem te9 : Z3c Tryz.prog 9 = some ⟨1, 16, false, .v (.string ⟨#[]⟩), none, [], none, 2, true, none, none⟩ /\ zsB Tryz.prog 9 = true := ⟨by kernel_rfl, by kernel_rfl⟩
theorem te44 : Z3c Tryz.prog 44 = some ⟨1, 24, false, .v (.slice none 0 0), some (none, 3), [], none, 3, true, none, none⟩ /\ zsB Tryz.prog 44 = true := ⟨by kernel_rfl, by kernel_rfl⟩
theorem te64 : Z3c Tryz.prog 64 = some ⟨2, 32, true, .agg [.v (.int .i64 0), .v (.slice none 0 0)], none, [(0, 1, 0), (1, 1, 0)], none, 8, true, none, none⟩ /\ zsB Tryz.prog 64 = true := ⟨by kernel_rfl, by kernel_rfl⟩
theorem te31 : Z3c Tryz.prog 31 = some ⟨5, 40, true, .agg [.v (.int .i64 0), .v (.int .i64 0), .v (.int .i64 0), .v (.int .i64 0), .v (.int .i64 0)], none, [(0, 1, 0), (1, 1, 0), (2, 1, 0), (3, 2, 1)], none, 8, true, none, some 5⟩ /\ zsB Tryz.prog 31 = true := ⟨by kernel_rfl, by kernel_rfl⟩
theorem te61 : Z3c Tryz.prog 61 = some ⟨3, 40, true, .agg [.v (.int .i64 0), .v (.int .i64 0), .v (.slice none 0 0)], none, [(0, 1, 0), (1, 1, 0), (2, 1, 0)], none, 8, true, none, none⟩ /\ zsB Tryz.prog 61 = true := ⟨by kernel_rfl, by kernel_rfl⟩
theorem Zz3 : Z3c Tryz.prog 23 = some ⟨1, 24, false, .v (.slice none 0 0), some (none, 31), [], none, 3, true, none, none⟩ /\ zsB Tryz.prog 23 = true := ⟨by kernel_rfl, by kernel_rfl⟩
theorem te28 : Z3c Tryz.prog 28 = some ⟨2, 16, true, .agg [.v (.int .i64 0), .v (.int .i64 0)], none, [(0, 1, 0), (1, 1, 0)], none, 8, true, none, some 2⟩ /\ zsB Tryz.prog 28 = true := ⟨by kernel_rfl, by kernel_rfl⟩
theorem te74 : Z3c Tryz.prog 74 = some ⟨1, 24, false, .v (.slice none 0 0), some (none, 9), [], none, 3, true, none, none⟩ /\ zsB Tryz.prog 74 = true := ⟨by kernel_rfl, by kernel_rfl⟩
theorem te4 : Z3c Tryz.prog 4 = some ⟨1, 1, false, .v (.bool false), none, [], none, 1, true, none, none⟩ /\ zsB Tryz.prog 4 = true := ⟨by kernel_rfl, by kernel_rfl⟩
theorem te62 : Z3c Tryz.prog 62 = some ⟨1, 24, false, .v (.slice none 0 0), some (none, 61), [], none, 3, true, none, none⟩ /\ zsB Tryz.prog 62 = true := ⟨by kernel_rfl, by kernel_rfl⟩
theorem Zz7 : Z3c Tryz.prog 33 = some ⟨1, 8, false, .v (.int .i64 0), none, [], some .i64, 10, true, none, some 1⟩ /\ zsB Tryz.prog 33 = true := ⟨by kernel_rfl, by kernel_rfl⟩
theorem te58 : Z3c Tryz.prog 58 = some ⟨3, 24, true, .agg [.v (.int .i64 0), .v (.int .i64 0), .v (.int .i64 0)], none, [(0, 1, 0), (1, 2, 1)], none, 8, true, none, some 3⟩ /\ zsB Tryz.prog 58 = true := ⟨by kernel_rfl, by kernel_rfl⟩
theorem te59 : Z3c Tryz.prog 59 = some ⟨1, 24, false, .v (.slice none 0 0), some (none, 58), [], none, 3, true, none, none⟩ /\ zsB Tryz.prog 59 = true := ⟨by kernel_rfl, by kernel_rfl⟩
theorem Z19t : Z3c Tryz.prog 127 = some ⟨7, 56, true, .agg [.v (.int .i64 0), .v (.int .i64 0), .v (.int .i64 0), .v (.int .i64 0), .v (.int .i64 0), .v (.int .i64 0), .v (.int .i64 0)], none, [(0, 1, 0), (1, 1, 0), (2, 1, 0), (3, 2, 1), (5, 2, 1)], none, 8, true, none, some 7⟩ /\ zsB Tryz.prog 127 = true := ⟨by kernel_rfl, by kernel_rfl⟩
theorem Zz6 : Z3c Tryz.prog 22 = some ⟨1, 24, false, .v (.slice none 0 0), some (none, 4), [], none, 3, true, none, none⟩ /\ zsB Tryz.prog 22 = true := ⟨by kernel_rfl, by kernel_rfl⟩
theorem Zxr : Z3c Tryz.prog 103 = some ⟨5, 40, true, .agg [.v (.int .i64 0), .v (.int .i64 0), .v (.int .i64 0), .v (.int .i64 0), .v (.int .i64 0)], none, [(0, 4, 1), (4, 1, 0)], none, 8, true, none, some 5⟩ /\ zsB Tryz.prog 103 = true := ⟨by kernel_rfl, by kernel_rfl⟩
theorem Z1f4 : Z3c Tryz.prog 123 = some ⟨1, 24, false, .v (.slice none 0 0), some (none, 127), [], none, 3, true, none, none⟩ /\ zsB Tryz.prog 123 = true := ⟨by kernel_rfl, by kernel_rfl⟩
theorem Z1f5 : Z3c Tryz.prog 248 = some ⟨7, 56, true, .agg [.v (.int .i64 0), .v (.int .i64 0), .v (.int .i64 0), .v (.int .i64 0), .v (.int .i64 0), .v (.int .i64 0), .v (.int .i64 0)], none, [(0, 7, 1)], none, 8, true, none, some 7⟩ /\ zsB Tryz.prog 248 = true := ⟨by kernel_rfl, by kernel_rfl⟩
theorem te97 : Z3c Tryz.prog 97 = some ⟨5, 88, true, .agg [.v (.int .i64 0), .v (.slice none 0 0), .v (.slice none 0 0), .v (.slice none 0 0), .v (.nilFunc)], none, [(0, 3, 1), (3, 1, 0), (4, 1, 0)], none, 8, true, none, none⟩ /\ zsB Tryz.prog 97 = true := ⟨by kernel_rfl, by kernel_rfl⟩
theorem Z1f6 : Z3c Tryz.prog 246 = some ⟨1, 24, false, .v (.slice none 0 0), some (none, 248), [], none, 3, true, none, none⟩ /\ zsB Tryz.prog 246 = true := ⟨by kernel_rfl, by kernel_rfl⟩
theorem te71 : Z3c Tryz.prog 71 = some ⟨1, 8, false, .v (.pointer none), none, [], none, 5, true, none, none⟩ /\ zsB Tryz.prog 71 = true := ⟨by kernel_rfl, by kernel_rfl⟩
theorem te39 : Z3c Tryz.prog 39 = some ⟨1, 24, false, .v (.slice none 0 0), some (none, 44), [], none, 3, true, none, none⟩ /\ zsB Tryz.prog 39 = true := ⟨by kernel_rfl, by kernel_rfl⟩
theorem Zzd : Z3c Tryz.prog 35 = some ⟨1, 24, false, .v (.slice none 0 0), some (none, 28), [], none, 3, true, none, none⟩ /\ zsB Tryz.prog 35 = true := ⟨by kernel_rfl, by kernel_rfl⟩
theorem Z1f7 : Z3c Tryz.prog 149 = some ⟨1, 8, false, .v (.int .u64 0), none, [], some .u64, 10, true, none, none⟩ /\ zsB Tryz.prog 149 = true := ⟨by kernel_rfl, by kernel_rfl⟩
theorem te5 : Z3c Tryz.prog 5 = some ⟨1, 1, false, .v (.int .u8 0), none, [], some .u8, 10, true, none, none⟩ /\ zsB Tryz.prog 5 = true := ⟨by kernel_rfl, by kernel_rfl⟩
theorem te91 : Z3c Tryz.prog 91 = some ⟨1, 8, false, .v (.map none), none, [], none, 4, true, some (103, 4), none⟩ /\ zsB Tryz.prog 91 = true := ⟨by kernel_rfl, by kernel_rfl⟩
theorem Zxw : Z3c Tryz.prog 152 = some ⟨1, 8, false, .v (.int .u64 0), none, [], some .u64, 10, true, none, none⟩ /\ zsB Tryz.prog 152 = true := ⟨by kernel_rfl, by kernel_rfl⟩
theorem Z19o : Z3c Tryz.prog 183 = some ⟨3, 56, true, .agg [.v (.int .i64 0), .v (.slice none 0 0), .v (.slice none 0 0)], none, [(0, 2, 1), (2, 1, 0)], none, 8, true, none, none⟩ /\ zsB Tryz.prog 183 = true := ⟨by kernel_rfl, by kernel_rfl⟩
theorem Z1f8 : Z3c Tryz.prog 238 = some ⟨4, 32, true, .agg [.v (.int .i64 0), .v (.int .i64 0), .v (.int .i64 0), .v (.int .i64 0)], some (some 4, 3), [], none, 9, true, none, some 4⟩ /\ zsB Tryz.prog 238 = true := ⟨by kernel_rfl, by kernel_rfl⟩
theorem Zzf : Z3c Tryz.prog 95 = some ⟨1, 8, false, .v (.nilFunc), none, [], none, 6, true, none, none⟩ /\ zsB Tryz.prog 95 = true := ⟨by kernel_rfl, by kernel_rfl⟩
theorem Z1f9 : Z3c Tryz.prog 200 = some ⟨4, 32, true, .agg [.v (.int .i64 0), .v (.int .i64 0), .v (.int .i64 0), .v (.int .i64 0)], none, [(0, 1, 0), (1, 1, 0), (2, 1, 0), (3, 1, 0)], none, 8, true, none, some 4⟩ /\ zsB Tryz.prog 200 = true := ⟨by kernel_rfl, by kernel_rfl⟩
theorem Zxs : Z3c Tryz.prog 110 = some ⟨1, 8, false, .v (.int .i64 0), none, [], some .i64, 10, true, none, some 1⟩ /\ zsB Tryz.prog 110 = true := ⟨by kernel_rfl, by kernel_rfl⟩
theorem Zxq : Z3c Tryz.prog 128 = some ⟨1, 8, false, .v (.nilFunc), none, [], none, 6, true, none, none⟩ /\ zsB Tryz.prog 128 = true := ⟨by kernel_rfl, by kernel_rfl⟩
theorem Z1fa : Z3c Tryz.prog 101 = some ⟨4, 32, true, .agg [.v (.int .i64 0), .v (.int .i64 0), .v (.int .i64 0), .v (.int .i64 0)], some (some 4, 3), [], none, 9, true, none, some 4⟩ /\ zsB Tryz.prog 101 = true := ⟨by kernel_rfl, by kernel_rfl⟩
theorem Z1fb : Z3c Tryz.prog 119 = some ⟨3, 40, true, .agg [.v (.nilFunc), .v (.bool false), .v (.slice none 0 0)], none, [(0, 1, 0), (1, 1, 0), (2, 1, 0)], none, 8, true, none, none⟩ /\ zsB Tryz.prog 119 = true := ⟨by kernel_rfl, by kernel_rfl⟩
theorem Z1fc : Z3c Tryz.prog 250 = some ⟨1, 8, false, .v (.nilFunc), none, [], none, 6, true, none, none⟩ /\ zsB Tryz.prog 250 = true := ⟨by kernel_rfl, by kernel_rfl⟩
theorem Zy4 : Z3c Tryz.prog 165 = some ⟨2, 32, true, .agg [.v (.int .i64 0), .v (.slice none 0 0)], none, [(0, 1, 0), (1, 1, 0)], none, 8, true, none, none⟩ /\ zsB Tryz.prog 165 = true := ⟨by kernel_rfl, by kernel_rfl⟩
theorem Z1fd : Z3c Tryz.prog 214 = some ⟨1, 24, false, .v (.slice none 0 0), some (none, 217), [], none, 3, true, none, none⟩ /\ zsB Tryz.prog 214 = true := ⟨by kernel_rfl, by kernel_rfl⟩
theorem Z1fe : Z3c Tryz.prog 236 = some ⟨2, 16, true, .agg [.v (.nilFunc), .v (.nilFunc)], none, [(0, 1, 0), (1, 1, 0)], none, 8, true, none, none⟩ /\ zsB Tryz.prog 236 = true := ⟨by kernel_rfl, by kernel_rfl⟩
theorem Z1ff : Z3c Tryz.prog 151 = some ⟨1, 8, true, .agg [.v (.int .u64 0)], none, [(0, 1, 0)], none, 8, true, none, none⟩ /\ zsB Tryz.prog 151 = true := ⟨by kernel_rfl, by kernel_rfl⟩
theorem Z1fg : Z3c Tryz.prog 221 = some ⟨5, 40, true, .agg [.v (.int .i64 0), .v (.int .i64 0), .v (.int .i64 0), .v (.int .i64 0), .v (.int .i64 0)], none, [(0, 5, 1)], none, 8, true, none, some 5⟩ /\ zsB Tryz.prog 221 = true := ⟨by kernel_rfl, by kernel_rfl⟩
theorem te82 : Z3c Tryz.prog 82 = some ⟨1, 24, false, .v (.slice none 0 0), some (none, 165), [], none, 3, true, none, none⟩ /\ zsB Tryz.prog 82 = true := ⟨by kernel_rfl, by kernel_rfl⟩
theorem Z19s : Z3c Tryz.prog 196 = some ⟨2, 16, true, .agg [.v (.int .i64 0), .v (.int .i64 0)], none, [(0, 1, 0), (1, 1, 0)], none, 8, true, none, some 2⟩ /\ zsB Tryz.prog 196 = true := ⟨by kernel_rfl, by kernel_rfl⟩
theorem Z1fh : Z3c Tryz.prog 219 = some ⟨6, 48, true, .agg [.v (.int .i64 0), .v (.int .i64 0), .v (.int .i64 0), .v (.int .i64 0), .v (.int .i64 0), .v (.int .i64 0)], none, [(0, 5, 1), (5, 1, 0)], none, 8, true, none, some 6⟩ /\ zsB Tryz.prog 219 = true := ⟨by kernel_rfl, by kernel_rfl⟩
theorem Z1fi : Z3c Tryz.prog 224 = some ⟨5, 40, true, .agg [.v (.int .i64 0), .v (.int .i64 0), .v (.int .i64 0), .v (.int .i64 0), .v (.int .i64 0)], none, [(0, 5, 1)], none, 8, true, none, some 5⟩ /\ zsB Tryz.prog 224 = true := ⟨by kernel_rfl, by kernel_rfl⟩
theorem Z1fj : Z3c Tryz.prog 227 = some ⟨1, 8, true, .agg [.v (.int .i64 0)], none, [(0, 1, 0)], none, 8, true, none, some 1⟩ /\ zsB Tryz.prog 227 = true := ⟨by kernel_rfl, by kernel_rfl⟩
theorem Z1fk : Z3c Tryz.prog 231 = some ⟨1, 8, false, .v (.map none), none, [], none, 4, true, some (3, 3), none⟩ /\ zsB Tryz.prog 231 = true := ⟨by kernel_rfl, by kernel_rfl⟩
theorem Z1fl : Z3c Tryz.prog 240 = some ⟨11, 88, true, .agg [.v (.int .i64 0), .v (.int .i64 0), .v (.int .i64 0), .v (.int .i64 0), .v (.int .i64 0), .v (.int .i64 0), .v (.int .i64 0), .v (.int .i64 0), .v (.int .i64 0), .v (.int .i64 0), .v (.int .i64 0)], none, [(0, 3, 1), (3, 4, 1), (7, 4, 1)], none, 8, true, none, some 11⟩ /\ zsB Tryz.prog 240 = true := ⟨by kernel_rfl, by kernel_rfl⟩
theorem Z1fm : Z3c Tryz.prog 198 = some ⟨1, 24, false, .v (.slice none 0 0), some (none, 200), [], none, 3, true, none, none⟩ /\ zsB Tryz.prog 198 = true := ⟨by kernel_rfl, by kernel_rfl⟩
theorem Z1fn : Z3c Tryz.prog 217 = some ⟨1, 16, false, .v (.nilIface), none, [], none, 7, true, none, none⟩ /\ zsB Tryz.prog 217 = true := ⟨by kernel_rfl, by kernel_rfl⟩
theorem Z1fo : Z3c Tryz.prog 105 = some ⟨1, 8, false, .v (.nilFunc), none, [], none, 6, true, none, none⟩ /\ zsB Tryz.prog 105 = true := ⟨by kernel_rfl, by kernel_rfl⟩
theorem Z19w : Z3c Tryz.prog 194 = some ⟨1, 8, false, .v (.map none), none, [], none, 4, true, some (196, 3), none⟩ /\ zsB Tryz.prog 194 = true := ⟨by kernel_rfl, by kernel_rfl⟩
theorem Z19v : Z3c Tryz.prog 175 = some ⟨0, 0, true, .agg [], none, [], none, 8, true, none, some 0⟩ /\ zsB Tryz.prog 175 = true := ⟨by kernel_rfl, by kernel_rfl⟩
theorem te73 : Z3c Tryz.prog 73 = some ⟨1, 24, false, .v (.slice none 0 0), some (none, 64), [], none, 3, true, none, none⟩ /\ zsB Tryz.prog 73 = true := ⟨by kernel_rfl, by kernel_rfl⟩
theorem Zze : Z3c Tryz.prog 85 = some ⟨1, 24, false, .v (.slice none 0 0), some (none, 25), [], none, 3, true, none, none⟩ /\ zsB Tryz.prog 85 = true := ⟨by kernel_rfl, by kernel_rfl⟩
theorem Zxt : Z3c Tryz.prog 121 = some ⟨1, 8, false, .v (.nilFunc), none, [], none, 6, true, none, none⟩ /\ zsB Tryz.prog 121 = true := ⟨by kernel_rfl, by kernel_rfl⟩
theorem Z1fp : Z3c Tryz.prog 130 = some ⟨1, 8, true, .agg [.v (.nilFunc)], none, [(0, 1, 0)], none, 8, true, none, none⟩ /\ zsB Tryz.prog 130 = true := ⟨by kernel_rfl, by kernel_rfl⟩
theorem Z1fq : Z3c Tryz.prog 154 = some ⟨1, 24, false, .v (.slice none 0 0), some (none, 5), [], none, 3, true, none, none⟩ /\ zsB Tryz.prog 154 = true := ⟨by kernel_rfl, by kernel_rfl⟩
theorem Z1fr : Z3c Tryz.prog 253 = some ⟨1, 8, false, .v (.nilFunc), none, [], none, 6, true, none, none⟩ /\ zsB Tryz.prog 253 = true := ⟨by kernel_rfl, by kernel_rfl⟩
theorem Zzg : Z3c Tryz.prog 20 = some ⟨1, 16, false, .v (.nilIface), none, [], none, 7, true, none, none⟩ /\ zsB Tryz.prog 20 = true := ⟨by kernel_rfl, by kernel_rfl⟩
theorem Z1fs : Z3c Tryz.prog 179 = some ⟨1, 8, false, .v (.nilFunc), none, [], none, 6, true, none, none⟩ /\ zsB Tryz.prog 179 = true := ⟨by kernel_rfl, by kernel_rfl⟩
theorem Z1ft : Z3c Tryz.prog 193 = some ⟨1, 8, false, .v (.nilFunc), none, [], none, 6, true, none, none⟩ /\ zsB Tryz.prog 193 = true := ⟨by kernel_rfl, by kernel_rfl⟩
theorem Z1fu : Z3c Tryz.prog 207 = some ⟨1, 16, false, .v (.nilIface), none, [], none, 7, true, none, none⟩ /\ zsB Tryz.prog 207 = true := ⟨by kernel_rfl, by kernel_rfl⟩
theorem Z1fv : Z3c Tryz.prog 232 = some ⟨1, 24, false, .v (.slice none 0 0), some (none, 236), [], none, 3, true, none, none⟩ /\ zsB Tryz.prog 232 = true := ⟨by kernel_rfl, by kernel_rfl⟩
theorem Z1fw : Z3c Tryz.prog 168 = some ⟨1, 8, false, .v (.pointer none), none, [], none, 5, true, none, none⟩ /\ zsB Tryz.prog 168 = true := ⟨by kernel_rfl, by kernel_rfl⟩
theorem Z1fx : Z3c Tryz.prog 234 = some ⟨1, 8, false, .v (.nilFunc), none, [], none, 6, true, none, none⟩ /\ zsB Tryz.prog 234 = true := ⟨by kernel_rfl, by kernel_rfl⟩
theorem Z1fy : Z3c Tryz.prog 237 = some ⟨3, 24, true, .agg [.v (.int .i64 0), .v (.int .i64 0), .v (.int .i64 0)], some (some 3, 3), [], none, 9, true, none, some 3⟩ /\ zsB Tryz.prog 237 = true := ⟨by kernel_rfl, by kernel_rfl⟩
theorem Z1fz : Z3c Tryz.prog 242 = some ⟨1, 8, false, .v (.pointer none), none, [], none, 5, true, none, none⟩ /\ zsB Tryz.prog 242 = true := ⟨by kernel_rfl, by kernel_rfl⟩
theorem Z1g0 : Z3c Tryz.prog 252 = some ⟨1, 8, false, .v (.nilFunc), none, [], none, 6, true, none, none⟩ /\ zsB Tryz.prog 252 = true := ⟨by kernel_rfl, by kernel_rfl⟩
theorem Z1g1 : Z3c Tryz.prog 266 = some ⟨1, 8, false, .v (.nilFunc), none, [], none, 6, true, none, none⟩ /\ zsB Tryz.prog 266 = true := ⟨by kernel_rfl, by kernel_rfl⟩
theorem te21 : Z3c Tryz.prog 21 = some ⟨1, 4, false, .v (.int .i32 0), none, [], some .i32, 10, true, none, none⟩ /\ zsB Tryz.prog 21 = true := ⟨by kernel_rfl, by kernel_rfl⟩
theorem Z19l : Z3c Tryz.prog 109 = some ⟨1, 8, false, .v (.nilFunc), none, [], none, 6, true, none, none⟩ /\ zsB Tryz.prog 109 = true := ⟨by kernel_rfl, by kernel_rfl⟩
theorem Z1g2 : Z3c Tryz.prog 117 = some ⟨1, 8, false, .v (.nilFunc), none, [], none, 6, true, none, none⟩ /\ zsB Tryz.prog 117 = true := ⟨by kernel_rfl, by kernel_rfl⟩
theorem Z1g3 : Z3c Tryz.prog 190 = some ⟨1, 8, false, .v (.nilFunc), none, [], none, 6, true, none, none⟩ /\ zsB Tryz.prog 190 = true := ⟨by kernel_rfl, by kernel_rfl⟩
theorem Z1g4 : Z3c Tryz.prog 230 = some ⟨1, 8, false, .v (.pointer none), none, [], none, 5, true, none, none⟩ /\ zsB Tryz.prog 230 = true := ⟨by kernel_rfl, by kernel_rfl⟩
theorem Z0 : TOK Tryz.prog TD := Zwk (fun _ => rfl) (
 ⟨te3, Zyz, te9, te44, te64, te31, te61, Zz3, te28, te74, te4, te62, Zz7, te58, te59, Z19t, Zz6, Zxr, Z1f4, Z1f5, te97, Z1f6, te71, te39, Zzd, Z1f7, te5, te91, Zxw, Z19o, Z1f8, Zzf, Z1f9, Zxs, Zxq, Z1fa, Z1fb, Z1fc, Zy4, Z1fd, Z1fe, Z1ff, Z1fg, te82, Z19s, Z1fh, Z1fi, Z1fj, Z1fk, Z1fl, Z1fm, Z1fn, Z1fo, Z19w, Z19v, te73, Zze, Zxt, Z1fp, Z1fq, Z1fr, Zzg, Z1fs, Z1ft, Z1fu, Z1fv, Z1fw, Z1fx, Z1fy, Z1fz, Z1g0, Z1g1, te21, Z19l, Z1g2, Z1g3, Z1g4, trivial⟩) (by kernel_rfl)
end Go.Proofs.YthljpccegkmdnaaGreatDoor

namespace Go.Proofs.YthljpccegkmdnaaGreatDoor
open Go Go.Abs Go.Proofs
def I (x : Int) : D := .v (.int .i64 x)
theorem Zdh {n : Int} (h : -9223372036854775808 <= n /\ n <= 9223372036854775807) : IntKind.i64.wrap n = n := by rw [IntKind.wrap_i64]; omega
end Go.Proofs.YthljpccegkmdnaaGreatDoor

namespace Go.Proofs.YthljpccegkmdnaaGreatDoor
open Go Go.Abs Go.Proofs
open Go.ChangeShapes Go.WideShapes Go.RowKit
structure KnowW (W : World) : Prop where
 kh : W.cell? ⟨0, 0, none⟩ = some Zxj
 kb : ∀ (b : Nat) (p : Obj -> Prop), knB b = some p -> ∃ o, W.heap[b]? = some o /\ p o
def fzW (W : World) (hk : KnowW W) : Fz := ⟨fun b o => W.cell? ⟨b, o, none⟩, hk.kh⟩
def mu0 : Mu := ⟨fun _ => none, fun _ _ => False⟩
theorem hr0 (W : World) (hk : KnowW W) : HR (fzW W hk) mu0 [] W where
 dom := fun _ _ => rfl
 row := fun k sz es h => by simp [Z17] at h
 plain := fun k y h => by simp [Z17] at h
 obj := fun k x h => by simp [Z13] at h
 non := fun k _ b h => h
 inj := fun k k' b h => by simp [Z20] at h
 lt := fun b ⟨k, h, _⟩ => by simp [Z20] at h
 frz := fun b o v h => ⟨h, fun ⟨k, h, _⟩ => by simp [Z20] at h⟩
 kb := fun b p h => ⟨hk.kb b p h, fun ⟨k, h, _⟩ => by simp [Z20] at h⟩
 fr := fun k x h => by simp at h
theorem Zvt (W : World) (b : Nat) : ¬ Own mu0 [] b := fun ⟨k, h, _⟩ => by simp [Z20] at h
theorem Zj7 : Tryz.prog.cellsOf 3 = 1 := by kernel_rfl
set_option maxRecDepth 100000 in
theorem Zvu {H : Type} {enc : TypeId × Value -> H} {W : World} {hk : KnowW W} {base b0 : Nat} {spare : Nat -> Bool} {held : Bool} {v : Value} {d : DataW H} {ps : List MemPlace} (hval : Value.okWide Tryz.prog W .any b0 44 v) (h : DataW.Trod enc Tryz.prog W base spare held 44 v d ps) :
  ∃ nums : List Int, (nums.map I).length <= 9223372036854775807 /\ VR (fzW W hk) mu0 (.sl 1 (nums.map I)) v := by
 obtain ⟨fuel, hf⟩ := h;obtain ⟨a0, len, cap, rfl⟩ := okWide_slice Tryz.underlying44 hval;rcases open_ints Tryz.underlying44 Tryz.underlying3 Zj7 hf with ⟨hcs, -⟩ | ⟨a, len', cap', zs, hcs, -, hlc, hcm, hzl, -, hcell, -⟩
 ·simp [Value.cells] at hcs;obtain ⟨rfl, rfl, rfl⟩ := hcs;exact ⟨[], by simp, .cl _ _ (.slE _ _ _)⟩
 ·simp [Value.cells] at hcs;obtain ⟨rfl, rfl, rfl⟩ := hcs;have hle : len <= zs.length := by rw [hzl]; split <;> omega
  refine ⟨zs.take len, ?_, ?_⟩
  ·simp only [List.length_map, List.length_take];have : maxLen <= 9223372036854775807 := Nat.le_of_ble_eq_true rfl;omega
  ·cases hlen : len with
   | zero => simp only [List.take_zero, List.map_nil]; exact .cl _ _ (.slE _ _ _)
   | succ n =>
    have hsp : a.spot = none := by
     have := hcell 0 (by omega);simp only [Addr.add, if_true, World.cell?] at this
     split at this
     ·split at this
      ·cases this
      ·rename_i hs; simpa using hs
     ·cases this
    obtain ⟨b, o, sp⟩ := a;simp only at hsp;subst hsp;have hl2 : ((zs.take (n + 1)).map I).length = n + 1 := by simp; omega
    have key : ∀ i (e : D), ((zs.take (n + 1)).map I)[i]? = some e -> e = I (zs.getD i 0) /\ i < zs.length := fun i e he => by
     have hi := (List.getElem?_eq_some_iff.1 he).1;rw [hl2] at hi;have hz : i < zs.length := by omega
     rw [List.getElem?_map, List.getElem?_take, if_pos hi, List.getElem?_eq_getElem hz] at he;simp only [Option.map_some, Option.some.injEq] at he;refine ⟨?_, hz⟩;rw [<- he, List.getD_eq_getElem?_getD, List.getElem?_eq_getElem hz]; rfl
    have cell : ∀ i, i < zs.length -> W.cell? ⟨b, o + i * 1 + 0, none⟩ = some (.int .i64 (zs.getD i 0)) := fun i hi => by
     have := hcell i hi;unfold Addr.add at this
     split at this
     ·rename_i e; subst e; simpa using this
     ·simpa using this
    have fin := CR.sl (F := fzW W hk) 1 ((zs.take (n + 1)).map I) b o cap (fun i _ => .int .i64 (zs.getD i 0)) (by rw [hl2]; omega)
     (fun i e he => by rw [(key i e he).1]; rfl)
     (fun i e r c he hc => by
      obtain ⟨e1, hz⟩ := key i e he
      subst e1
      match r, hc with
      | 0, _ => exact ⟨cell i hz, rfl⟩
      | r + 1, hc => simp [D.cells, I] at hc)
     (fun i e r c he hc => by
      obtain ⟨e1, hz⟩ := key i e he
      subst e1
      match r, hc with
      | 0, hc => simp [D.cells, I] at hc; subst hc; exact .v _ rfl
      | r + 1, hc => simp [D.cells, I] at hc)
    rw [hl2] at fin;exact .cl _ _ fin
theorem own : ownKnob Tryz.prog.godebug = none := by kernel_rfl
theorem Zvv : laidOutB Tryz.prog = true := by kernel_rfl
end Go.Proofs.YthljpccegkmdnaaGreatDoor

namespace Go.Proofs.YthljpccegkmdnaaGreatDoor
open Go Go.Abs Go.Proofs
def U (x : Int) : D := .v (.int .u64 x)
end Go.Proofs.YthljpccegkmdnaaGreatDoor

namespace Go.Proofs.YthljpccegkmdnaaGreatDoor
open Go Go.Abs Go.Proofs
def pot (x : Int) : Blk := .box (.agg [U x])
theorem Zws (n : Int) : 0 <= IntKind.u64.wrap n := by
 have : IntKind.u64.wrap n = n % 18446744073709551616 := rfl;rw [this]; exact Int.emod_nonneg _ (by decide)
theorem Zwt (x y : Int) : 0 <= ar.bits .xor .u64 x y := Zws _
theorem Zbu {n : Int} (h : -9223372036854775808 <= n /\ n <= 9223372036854775807) : ar.fits .i64 n := Zdh h
theorem Zvb {n : Int} (h : 0 <= n) : ar.nneg n := h
theorem step (x : Int) (Q) (hq : ∀ y x', 0 <= y -> Q (RA.ret (U y)) [pot x']) : CallA Tryz.prog 131 [.b 0 0] [pot x] Q := by
 obtain ⟨A, hA⟩ : ∃ A, A = ar := ⟨_, rfl⟩;refine Z5 Z0 hA Tryz.func131 rfl rfl rfl rfl rfl fun S hS => ?_;cbv;refine ⟨by subst hA; exact Zvb (by decide), by subst hA; exact Zvb (by decide), by subst hA; exact Zvb (by decide), Z1 (hq _ _ ?_)⟩;subst hA; exact Zwt _ _
theorem Zj0 (x most : Int) (hm : most <= 1000000000000) (Q) (hq : ∀ n x', 0 <= n -> (n <= most ∨ n = 0) -> Q (RA.ret (I n)) [pot x']) : CallA Tryz.prog 90 [.b 0 0, I most] [pot x] Q := by
 obtain ⟨A, hA⟩ : ∃ A, A = ar := ⟨_, rfl⟩;refine Z5 Z0 hA Tryz.func90 rfl rfl rfl rfl rfl fun S hS => ?_;cbv
 split
 ·cbv;exact Z1 (hq 0 x (by omega) (.inr rfl))
 ·rename_i hc
  cbv;refine Z4 hS [.b 0 0] [0] [pot x] rfl rfl rfl rfl rfl rfl rfl rfl (by decide) ⟨rfl, trivial⟩ (step x _ fun y x' hy => ?_);refine Z3 Z0 hA hS ?_;cbv;subst hA;have hlt : 1 <= most := by simp [ar, Z25] at hc; omega
  refine ⟨Zvb (by decide), Zbu (by simp [ar]; omega), by
   show IntKind.u64.wrap (most + 1) ≠ 0
   have : IntKind.u64.wrap (most + 1) = (most + 1) % 18446744073709551616 := rfl
   rw [this, Int.emod_eq_of_lt (by omega) (by omega)]; omega, Z1 (hq _ x' ?_ (.inl ?_))⟩
  all_goals
   have e : ar.wrap .i64 (ar.rem (ar.shift .shr .u64 y 11) (ar.wrap .u64 (ar.add most 1))) = (y.fdiv (2 ^ 11)).tmod (most + 1) := by
    have e1 : IntKind.u64.wrap (most + 1) = most + 1 := by
     have : IntKind.u64.wrap (most + 1) = (most + 1) % 18446744073709551616 := rfl;rw [this, Int.emod_eq_of_lt (by omega) (by omega)]
    have h1 : 0 <= y.fdiv (2 ^ 11) := Int.fdiv_nonneg hy (by decide);have h2 := Int.tmod_nonneg (most + 1) h1;have h3 := Int.tmod_lt_of_pos (y.fdiv (2 ^ 11)) (show 0 < most + 1 by omega);show IntKind.i64.wrap ((y.fdiv (2 ^ 11)).tmod (IntKind.u64.wrap (most + 1))) = _;rw [e1];exact Zdh ⟨by omega, by omega⟩
   have h1 : 0 <= y.fdiv (2 ^ 11) := Int.fdiv_nonneg hy (by decide);have h2 := Int.tmod_nonneg (most + 1) h1;have h3 := Int.tmod_lt_of_pos (y.fdiv (2 ^ 11)) (show 0 < most + 1 by omega)
   first
   | exact le_of_le_of_eq h2 e.symm
   | exact le_of_eq_of_le e (by omega)
theorem Zn3 (x least most : Int) (hm : -1000000000 <= least /\ least <= 1000000000 /\ -1000000000 <= most /\ most <= 1000000000) (Q) (hq : ∀ n x', least <= n -> (n <= most ∨ n = least) -> Q (RA.ret (I n)) [pot x']) : CallA Tryz.prog 89 [.b 0 0, I least, I most] [pot x] Q := by
 obtain ⟨A, hA⟩ : ∃ A, A = ar := ⟨_, rfl⟩;refine Z5 Z0 hA Tryz.func89 rfl rfl rfl rfl rfl fun S hS => ?_;cbv;refine ⟨by subst hA; exact Zbu (by simp [ar]; omega), ?_⟩;refine Z4 hS [.b 0 0, I (A.sub most least)] [0] [pot x] rfl rfl rfl rfl rfl rfl rfl rfl (by decide) ⟨rfl, trivial⟩ (Zj0 x _ (by subst hA; simp [ar]; omega) _ fun n x' h1 h2 => ?_);refine Z3 Z0 hA hS ?_;cbv;subst hA
 replace h1 : 0 <= n := h1
 replace h2 : n <= most - least ∨ n = 0 := h2
 exact ⟨Zbu (by simp [ar]; omega), Z1 (hq (least + n) x' (by omega) (by omega))⟩
theorem of_ (x : Int) (L : List D) (l : List Int) (hL : L = l.map I) (hl : l.length <= 1000) (hl0 : l ≠ []) (Q) (hq : ∀ n x', n ∈ l -> Q (RA.ret (I n)) [pot x']) : CallA Tryz.prog 91 [.b 0 0, .sl 1 L] [pot x] Q := by
 obtain ⟨A, hA⟩ : ∃ A, A = ar := ⟨_, rfl⟩;have hlen : L.length = l.length := by rw [hL]; simp
 have hpos : 0 < l.length := List.length_pos_iff.2 hl0;refine Z5 Z0 hA Tryz.func91 rfl rfl rfl rfl rfl fun S hS => ?_;cbv
 split
 ·rename_i hc
  exfalso; subst hA
  replace hc : ((L.length : Int) == 0) = true := hc
  have := eq_of_beq hc;omega
 ·cbv;refine ⟨by subst hA; exact Zbu (n := (L.length : Int) - 1) (by omega), ?_⟩;refine Z4 hS [.b 0 0, I (A.sub (A.oi (A.len L)) 1)] [0] [pot x] rfl rfl rfl rfl rfl rfl rfl rfl (by decide) ⟨rfl, trivial⟩ (Zj0 x _ (by subst hA; show (L.length : Int) - 1 <= _; omega) _ fun n x' h1 h2 => ?_);refine Z3 Z0 hA hS ?_;cbv;have h2' : n < l.length := by
   subst hA
   replace h2 : n <= (L.length : Int) - 1 ∨ n = 0 := h2
   omega
  replace h1 : 0 <= n := h1
  obtain ⟨k, rfl⟩ := Int.eq_ofNat_of_zero_le h1;have hk : k < l.length := by omega
  obtain ⟨z, hz⟩ : ∃ z, z = l[k] := ⟨_, rfl⟩;refine ⟨by subst hA; show 0 <= (k : Int) /\ (k : Int) < (L.length : Nat); omega, ⟨I z, by subst hA; simp [ar, hL, hk, hz], ?_⟩⟩;cbv;exact Z1 (hq _ x' (hz ▸ List.getElem_mem hk))
end Go.Proofs.YthljpccegkmdnaaGreatDoor

namespace Go.Proofs.YthljpccegkmdnaaGreatDoor
open Go Go.Abs Go.Proofs
theorem Zwu (x n least most wide : Int) (hn : -100000 <= least /\ least <= n /\ n <= most /\ most <= 100000) (hw : 0 <= wide /\ wide <= 100000) (Q)
  (hq : ∀ lo hi x', least <= lo -> lo <= n -> n <= hi -> hi <= most -> (wide = 0 -> lo = n /\ hi = n) -> Q (RA.ret (.agg [I lo, I hi])) [pot x']) :
  CallA Tryz.prog 104 [.b 0 0, I n, I least, I most, I wide] [pot x] Q := by
 obtain ⟨A, hA⟩ : ∃ A, A = ar := ⟨_, rfl⟩;refine Z5 Z0 hA Tryz.func104 rfl rfl rfl rfl rfl fun S hS => ?_;cbv;refine Z4 hS [.b 0 0, I wide] [0] [pot x] rfl rfl rfl rfl rfl rfl rfl rfl (by decide) ⟨rfl, trivial⟩ (Zj0 x _ (by omega) _ fun a xa ha1 ha2 => ?_);refine Z3 Z0 hA hS ?_;cbv;refine Z26 hS (Z1a hA [2] ?_);cbv;refine ⟨by subst hA; rfl, Z7 ?_⟩;refine Z4 hS [.b 0 0, .sl 1 [I 0, I 0, I a]] [0] [pot xa] rfl rfl rfl rfl rfl rfl rfl rfl (by decide) ⟨rfl, trivial⟩ (of_ xa _ [0, 0, a] rfl (Nat.le_of_ble_eq_true rfl) (by simp) _ fun o xo ho => ?_);have ho' : 0 <= o /\ (o <= wide ∨ o = 0) := by simp at ho; omega
 refine Z3 Z0 hA hS ?_;cbv;refine ⟨by subst hA; exact Zbu (n := n - o) (by omega), ?_⟩;refine Z4 hS [.b 0 0, I wide] [0] [pot xo] rfl rfl rfl rfl rfl rfl rfl rfl (by decide) ⟨rfl, trivial⟩ (Zj0 xo _ (by omega) _ fun c xc hc1 hc2 => ?_);refine Z3 Z0 hA hS ?_;cbv;refine Z26 hS (Z1a hA [3] ?_);cbv;refine ⟨by subst hA; rfl, Z7 ?_⟩;refine Z4 hS [.b 0 0, .sl 1 [I 0, I 0, I c]] [0] [pot xc] rfl rfl rfl rfl rfl rfl rfl rfl (by decide) ⟨rfl, trivial⟩ (of_ xc _ [0, 0, c] rfl (Nat.le_of_ble_eq_true rfl) (by simp) _ fun p xp hp => ?_);have hp' : 0 <= p /\ (p <= wide ∨ p = 0) := by simp at hp; omega
 refine Z3 Z0 hA hS ?_;cbv;subst hA;refine ⟨Zbu (n := n + p) (by omega), Z2 [0] (by decide) (by decide) (H' := [pot xp]) (d' := .agg [I (if n - o > least then n - o else least), I (if n + p < most then n + p else most)]) ⟨rfl, trivial⟩ rfl (Z1 (hq _ _ xp ?_ ?_ ?_ ?_ (fun h => ⟨?_, ?_⟩)))⟩
 all_goals split <;> omega
end Go.Proofs.YthljpccegkmdnaaGreatDoor

namespace Go.Proofs.YthljpccegkmdnaaGreatDoor
open Go Go.Abs Go.Proofs
theorem drop_at {α : Type} {l : List α} {k : Nat} {x : α} (h : l[k]? = some x) : l.drop k = x :: l.drop (k + 1) := by
 obtain ⟨h1, rfl⟩ := List.getElem?_eq_some_iff.1 h;exact List.drop_eq_getElem_cons h1
section
variable {A : Ar} (hA : A = ar)
 include hA
theorem yoiL {l : List D} {n : Nat} (e : l.length = n) : A.oi (A.len l) = (n : Int) := by subst hA; subst e; rfl
theorem yeqL {l : List D} {n : Nat} {x : Int} (e : l.length = n) (c : A.cmp .eql (A.oi (A.len l)) x = true) : (n : Int) = x := (yoiL hA e).symm.trans (xeq hA c)
theorem yneqL {l : List D} {n : Nat} {x : Int} (e : l.length = n) (c : A.cmp .eql (A.oi (A.len l)) x = false) : (n : Int) ≠ x := fun h => Z2o hA c ((yoiL hA e).trans h)
theorem ygtL {l : List D} {n : Nat} {x : Int} (e : l.length = n) (c : A.cmp .gtr (A.oi (A.len l)) x = true) : x < (n : Int) := (yoiL hA e) ▸ xgt hA c
theorem yngtL {l : List D} {n : Nat} {x : Int} (e : l.length = n) (c : A.cmp .gtr (A.oi (A.len l)) x = false) : (n : Int) <= x := (yoiL hA e) ▸ Zax hA c
theorem xnot {b : Bool} (h : A.bnot b = true) : b = false := by subst hA; simpa [ar] using h
theorem xnnot {b : Bool} (h : A.bnot b = false) : b = true := by subst hA; simpa [ar] using h
end
theorem xapp {A : Ar} (hA : A = ar) (l r : List D) : A.app l r = l ++ r := by subst hA; rfl
theorem yroom1 {A : Ar} (hA : A = ar) {k b : Nat} (hk : k <= 1000000) (hb : b <= 1000) : A.room (A.addN k 1) b := by
 subst hA;have : (k + 1) * b <= 1000001 * 1000 := Nat.mul_le_mul (by omega) hb;exact ⟨by show (k + 1) * b <= 140737488355328; omega, by show k + 1 <= 4611686018427387904; omega⟩
theorem yeqLen {A : Ar} (hA : A = ar) {l : List D} {n : Nat} (h : l.length = n) : A.eqN n (A.len l) := by subst hA; exact h.symm
end Go.Proofs.YthljpccegkmdnaaGreatDoor

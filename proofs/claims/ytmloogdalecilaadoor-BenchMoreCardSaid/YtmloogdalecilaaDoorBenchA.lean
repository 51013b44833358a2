/- Part BenchA of the proofs about the benches of the accordion maker: see the last text of the claim for what is proved. -/
import Derived.Test.YtmloogdalecilaaDoorProg
import Derived.KernelRfl
import Derived.Test.YtmloogdalecilaaDoorMachD
set_option linter.unusedVariables false
set_option linter.unusedSimpArgs false
set_option linter.unnecessarySimpa false
set_option linter.constructorNameAsVariable false

/-! DTab -/
namespace Go.Proofs.YtmloogdalecilaaDoor
open Go Go.Abs Go.Proofs

def TDl : List (Nat × TE) := [
  (3, ⟨1, 8, false, .v (.int .i64 0), none, [], some .i64, 10, true, none, some 1⟩),
  (24, ⟨2, 32, true, .agg [.v (.int .i64 0), .v (.slice none 0 0)], none, [(0, 1, 0), (1, 1, 0)], none, 8, true, none, none⟩),
  (26, ⟨1, 24, false, .v (.slice none 0 0), some (none, 3), [], none, 3, true, none, none⟩),
  (22, ⟨1, 24, false, .v (.slice none 0 0), some (none, 55), [], none, 3, true, none, none⟩),
  (48, ⟨2, 16, true, .agg [.v (.int .i64 0), .v (.int .i64 0)], none, [(0, 1, 0), (1, 1, 0)], none, 8, true, none, some 2⟩),
  (55, ⟨3, 40, true, .agg [.v (.int .i64 0), .v (.int .i64 0), .v (.slice none 0 0)], none, [(0, 1, 0), (1, 1, 0), (2, 1, 0)], none, 8, true, none, none⟩),
  (53, ⟨1, 24, false, .v (.slice none 0 0), some (none, 57), [], none, 3, true, none, none⟩),
  (25, ⟨1, 24, false, .v (.slice none 0 0), some (none, 26), [], none, 3, true, none, none⟩),
  (57, ⟨3, 24, true, .agg [.v (.int .i64 0), .v (.int .i64 0), .v (.int .i64 0)], none, [(0, 1, 0), (1, 2, 1)], none, 8, true, none, some 3⟩),
  (39, ⟨1, 8, false, .v (.int .i64 0), none, [], some .i64, 10, true, none, some 1⟩),
  (63, ⟨7, 56, true, .agg [.v (.int .i64 0), .v (.int .i64 0), .v (.int .i64 0), .v (.int .i64 0), .v (.int .i64 0), .v (.int .i64 0), .v (.int .i64 0)], none, [(0, 1, 0), (1, 1, 0), (2, 1, 0), (3, 2, 1), (5, 2, 1)], none, 8, true, none, some 7⟩),
  (59, ⟨1, 24, false, .v (.slice none 0 0), some (none, 63), [], none, 3, true, none, none⟩),
  (29, ⟨1, 8, false, .v (.pointer none), none, [], none, 5, true, none, none⟩),
  (4, ⟨1, 1, false, .v (.bool false), none, [], none, 1, true, none, none⟩),
  (162, ⟨7, 56, true, .agg [.v (.int .i64 0), .v (.int .i64 0), .v (.int .i64 0), .v (.int .i64 0), .v (.int .i64 0), .v (.int .i64 0), .v (.int .i64 0)], none, [(0, 7, 1)], none, 8, true, none, some 7⟩),
  (76, ⟨1, 24, false, .v (.slice none 0 0), some (none, 48), [], none, 3, true, none, none⟩),
  (160, ⟨1, 24, false, .v (.slice none 0 0), some (none, 162), [], none, 3, true, none, none⟩),
  (116, ⟨3, 56, true, .agg [.v (.int .i64 0), .v (.slice none 0 0), .v (.slice none 0 0)], none, [(0, 2, 1), (2, 1, 0)], none, 8, true, none, none⟩),
  (36, ⟨1, 24, false, .v (.slice none 0 0), some (none, 24), [], none, 3, true, none, none⟩),
  (73, ⟨1, 24, false, .v (.slice none 0 0), some (none, 81), [], none, 3, true, none, none⟩),
  (100, ⟨1, 8, false, .v (.int .u64 0), none, [], some .u64, 10, true, none, none⟩),
  (81, ⟨5, 40, true, .agg [.v (.int .i64 0), .v (.int .i64 0), .v (.int .i64 0), .v (.int .i64 0), .v (.int .i64 0)], none, [(0, 1, 0), (1, 1, 0), (2, 1, 0), (3, 1, 0), (4, 1, 0)], none, 8, true, none, some 5⟩),
  (155, ⟨4, 32, true, .agg [.v (.int .i64 0), .v (.int .i64 0), .v (.int .i64 0), .v (.int .i64 0)], some (some 4, 3), [], none, 9, true, none, some 4⟩),
  (107, ⟨4, 32, true, .agg [.v (.int .i64 0), .v (.int .i64 0), .v (.int .i64 0), .v (.int .i64 0)], none, [(0, 1, 0), (1, 1, 0), (2, 1, 0), (3, 1, 0)], none, 8, true, none, some 4⟩),
  (132, ⟨2, 16, true, .agg [.v (.nilFunc), .v (.nilFunc)], none, [(0, 1, 0), (1, 1, 0)], none, 8, true, none, none⟩),
  (9, ⟨1, 16, false, .v (.string ⟨#[]⟩), none, [], none, 2, true, none, none⟩),
  (103, ⟨1, 8, false, .v (.int .u64 0), none, [], some .u64, 10, true, none, none⟩),
  (164, ⟨1, 8, false, .v (.nilFunc), none, [], none, 6, true, none, none⟩),
  (102, ⟨1, 8, true, .agg [.v (.int .u64 0)], none, [(0, 1, 0)], none, 8, true, none, none⟩),
  (152, ⟨1, 8, false, .v (.map none), none, [], none, 4, true, some (3, 3), none⟩),
  (112, ⟨2, 16, true, .agg [.v (.int .i64 0), .v (.int .i64 0)], none, [(0, 1, 0), (1, 1, 0)], none, 8, true, none, some 2⟩),
  (146, ⟨1, 8, true, .agg [.v (.int .i64 0)], none, [(0, 1, 0)], none, 8, true, none, some 1⟩),
  (157, ⟨11, 88, true, .agg [.v (.int .i64 0), .v (.int .i64 0), .v (.int .i64 0), .v (.int .i64 0), .v (.int .i64 0), .v (.int .i64 0), .v (.int .i64 0), .v (.int .i64 0), .v (.int .i64 0), .v (.int .i64 0), .v (.int .i64 0)], none, [(0, 3, 1), (3, 4, 1), (7, 4, 1)], none, 8, true, none, some 11⟩),
  (105, ⟨1, 24, false, .v (.slice none 0 0), some (none, 107), [], none, 3, true, none, none⟩),
  (110, ⟨1, 8, false, .v (.map none), none, [], none, 4, true, some (112, 3), none⟩),
  (122, ⟨1, 8, false, .v (.nilFunc), none, [], none, 6, true, none, none⟩),
  (123, ⟨1, 8, false, .v (.nilFunc), none, [], none, 6, true, none, none⟩),
  (128, ⟨1, 24, false, .v (.slice none 0 0), some (none, 132), [], none, 3, true, none, none⟩),
  (37, ⟨1, 24, false, .v (.slice none 0 0), some (none, 25), [], none, 3, true, none, none⟩),
  (159, ⟨1, 8, false, .v (.nilFunc), none, [], none, 6, true, none, none⟩),
  (67, ⟨1, 8, false, .v (.pointer none), none, [], none, 5, true, none, none⟩),
  (120, ⟨1, 8, false, .v (.nilFunc), none, [], none, 6, true, none, none⟩),
  (126, ⟨1, 8, false, .v (.nilFunc), none, [], none, 6, true, none, none⟩),
  (130, ⟨1, 8, false, .v (.nilFunc), none, [], none, 6, true, none, none⟩),
  (58, ⟨1, 8, false, .v (.nilFunc), none, [], none, 6, true, none, none⟩),
  (153, ⟨3, 24, true, .agg [.v (.int .i64 0), .v (.int .i64 0), .v (.int .i64 0)], some (some 3, 3), [], none, 9, true, none, some 3⟩),
  (20, ⟨1, 16, false, .v (.nilIface), none, [], none, 7, true, none, none⟩),
  (149, ⟨1, 16, false, .v (.nilIface), none, [], none, 7, true, none, none⟩),
  (151, ⟨1, 8, false, .v (.pointer none), none, [], none, 5, true, none, none⟩)]

def TD (n : Nat) : Option TE := lkp TDl n

theorem te3 : teOf Tryd.prog 3 = some ⟨1, 8, false, .v (.int .i64 0), none, [], some .i64, 10, true, none, some 1⟩ ∧ zsB Tryd.prog 3 = true := ⟨by kernel_rfl, by kernel_rfl⟩
theorem te24 : teOf Tryd.prog 24 = some ⟨2, 32, true, .agg [.v (.int .i64 0), .v (.slice none 0 0)], none, [(0, 1, 0), (1, 1, 0)], none, 8, true, none, none⟩ ∧ zsB Tryd.prog 24 = true := ⟨by kernel_rfl, by kernel_rfl⟩
theorem te26 : teOf Tryd.prog 26 = some ⟨1, 24, false, .v (.slice none 0 0), some (none, 3), [], none, 3, true, none, none⟩ ∧ zsB Tryd.prog 26 = true := ⟨by kernel_rfl, by kernel_rfl⟩
theorem te22 : teOf Tryd.prog 22 = some ⟨1, 24, false, .v (.slice none 0 0), some (none, 55), [], none, 3, true, none, none⟩ ∧ zsB Tryd.prog 22 = true := ⟨by kernel_rfl, by kernel_rfl⟩
theorem te48 : teOf Tryd.prog 48 = some ⟨2, 16, true, .agg [.v (.int .i64 0), .v (.int .i64 0)], none, [(0, 1, 0), (1, 1, 0)], none, 8, true, none, some 2⟩ ∧ zsB Tryd.prog 48 = true := ⟨by kernel_rfl, by kernel_rfl⟩
theorem te55 : teOf Tryd.prog 55 = some ⟨3, 40, true, .agg [.v (.int .i64 0), .v (.int .i64 0), .v (.slice none 0 0)], none, [(0, 1, 0), (1, 1, 0), (2, 1, 0)], none, 8, true, none, none⟩ ∧ zsB Tryd.prog 55 = true := ⟨by kernel_rfl, by kernel_rfl⟩
theorem te53 : teOf Tryd.prog 53 = some ⟨1, 24, false, .v (.slice none 0 0), some (none, 57), [], none, 3, true, none, none⟩ ∧ zsB Tryd.prog 53 = true := ⟨by kernel_rfl, by kernel_rfl⟩
theorem te25 : teOf Tryd.prog 25 = some ⟨1, 24, false, .v (.slice none 0 0), some (none, 26), [], none, 3, true, none, none⟩ ∧ zsB Tryd.prog 25 = true := ⟨by kernel_rfl, by kernel_rfl⟩
theorem te57 : teOf Tryd.prog 57 = some ⟨3, 24, true, .agg [.v (.int .i64 0), .v (.int .i64 0), .v (.int .i64 0)], none, [(0, 1, 0), (1, 2, 1)], none, 8, true, none, some 3⟩ ∧ zsB Tryd.prog 57 = true := ⟨by kernel_rfl, by kernel_rfl⟩
theorem te39 : teOf Tryd.prog 39 = some ⟨1, 8, false, .v (.int .i64 0), none, [], some .i64, 10, true, none, some 1⟩ ∧ zsB Tryd.prog 39 = true := ⟨by kernel_rfl, by kernel_rfl⟩
theorem te63 : teOf Tryd.prog 63 = some ⟨7, 56, true, .agg [.v (.int .i64 0), .v (.int .i64 0), .v (.int .i64 0), .v (.int .i64 0), .v (.int .i64 0), .v (.int .i64 0), .v (.int .i64 0)], none, [(0, 1, 0), (1, 1, 0), (2, 1, 0), (3, 2, 1), (5, 2, 1)], none, 8, true, none, some 7⟩ ∧ zsB Tryd.prog 63 = true := ⟨by kernel_rfl, by kernel_rfl⟩
theorem te59 : teOf Tryd.prog 59 = some ⟨1, 24, false, .v (.slice none 0 0), some (none, 63), [], none, 3, true, none, none⟩ ∧ zsB Tryd.prog 59 = true := ⟨by kernel_rfl, by kernel_rfl⟩
theorem te29 : teOf Tryd.prog 29 = some ⟨1, 8, false, .v (.pointer none), none, [], none, 5, true, none, none⟩ ∧ zsB Tryd.prog 29 = true := ⟨by kernel_rfl, by kernel_rfl⟩
theorem te4 : teOf Tryd.prog 4 = some ⟨1, 1, false, .v (.bool false), none, [], none, 1, true, none, none⟩ ∧ zsB Tryd.prog 4 = true := ⟨by kernel_rfl, by kernel_rfl⟩
theorem te162 : teOf Tryd.prog 162 = some ⟨7, 56, true, .agg [.v (.int .i64 0), .v (.int .i64 0), .v (.int .i64 0), .v (.int .i64 0), .v (.int .i64 0), .v (.int .i64 0), .v (.int .i64 0)], none, [(0, 7, 1)], none, 8, true, none, some 7⟩ ∧ zsB Tryd.prog 162 = true := ⟨by kernel_rfl, by kernel_rfl⟩
theorem te76 : teOf Tryd.prog 76 = some ⟨1, 24, false, .v (.slice none 0 0), some (none, 48), [], none, 3, true, none, none⟩ ∧ zsB Tryd.prog 76 = true := ⟨by kernel_rfl, by kernel_rfl⟩
theorem te160 : teOf Tryd.prog 160 = some ⟨1, 24, false, .v (.slice none 0 0), some (none, 162), [], none, 3, true, none, none⟩ ∧ zsB Tryd.prog 160 = true := ⟨by kernel_rfl, by kernel_rfl⟩
theorem te116 : teOf Tryd.prog 116 = some ⟨3, 56, true, .agg [.v (.int .i64 0), .v (.slice none 0 0), .v (.slice none 0 0)], none, [(0, 2, 1), (2, 1, 0)], none, 8, true, none, none⟩ ∧ zsB Tryd.prog 116 = true := ⟨by kernel_rfl, by kernel_rfl⟩
theorem te36 : teOf Tryd.prog 36 = some ⟨1, 24, false, .v (.slice none 0 0), some (none, 24), [], none, 3, true, none, none⟩ ∧ zsB Tryd.prog 36 = true := ⟨by kernel_rfl, by kernel_rfl⟩
theorem te73 : teOf Tryd.prog 73 = some ⟨1, 24, false, .v (.slice none 0 0), some (none, 81), [], none, 3, true, none, none⟩ ∧ zsB Tryd.prog 73 = true := ⟨by kernel_rfl, by kernel_rfl⟩
theorem te100 : teOf Tryd.prog 100 = some ⟨1, 8, false, .v (.int .u64 0), none, [], some .u64, 10, true, none, none⟩ ∧ zsB Tryd.prog 100 = true := ⟨by kernel_rfl, by kernel_rfl⟩
theorem te81 : teOf Tryd.prog 81 = some ⟨5, 40, true, .agg [.v (.int .i64 0), .v (.int .i64 0), .v (.int .i64 0), .v (.int .i64 0), .v (.int .i64 0)], none, [(0, 1, 0), (1, 1, 0), (2, 1, 0), (3, 1, 0), (4, 1, 0)], none, 8, true, none, some 5⟩ ∧ zsB Tryd.prog 81 = true := ⟨by kernel_rfl, by kernel_rfl⟩
theorem te155 : teOf Tryd.prog 155 = some ⟨4, 32, true, .agg [.v (.int .i64 0), .v (.int .i64 0), .v (.int .i64 0), .v (.int .i64 0)], some (some 4, 3), [], none, 9, true, none, some 4⟩ ∧ zsB Tryd.prog 155 = true := ⟨by kernel_rfl, by kernel_rfl⟩
theorem te107 : teOf Tryd.prog 107 = some ⟨4, 32, true, .agg [.v (.int .i64 0), .v (.int .i64 0), .v (.int .i64 0), .v (.int .i64 0)], none, [(0, 1, 0), (1, 1, 0), (2, 1, 0), (3, 1, 0)], none, 8, true, none, some 4⟩ ∧ zsB Tryd.prog 107 = true := ⟨by kernel_rfl, by kernel_rfl⟩
theorem te132 : teOf Tryd.prog 132 = some ⟨2, 16, true, .agg [.v (.nilFunc), .v (.nilFunc)], none, [(0, 1, 0), (1, 1, 0)], none, 8, true, none, none⟩ ∧ zsB Tryd.prog 132 = true := ⟨by kernel_rfl, by kernel_rfl⟩
theorem te9 : teOf Tryd.prog 9 = some ⟨1, 16, false, .v (.string ⟨#[]⟩), none, [], none, 2, true, none, none⟩ ∧ zsB Tryd.prog 9 = true := ⟨by kernel_rfl, by kernel_rfl⟩
theorem te103 : teOf Tryd.prog 103 = some ⟨1, 8, false, .v (.int .u64 0), none, [], some .u64, 10, true, none, none⟩ ∧ zsB Tryd.prog 103 = true := ⟨by kernel_rfl, by kernel_rfl⟩
theorem te164 : teOf Tryd.prog 164 = some ⟨1, 8, false, .v (.nilFunc), none, [], none, 6, true, none, none⟩ ∧ zsB Tryd.prog 164 = true := ⟨by kernel_rfl, by kernel_rfl⟩
theorem te102 : teOf Tryd.prog 102 = some ⟨1, 8, true, .agg [.v (.int .u64 0)], none, [(0, 1, 0)], none, 8, true, none, none⟩ ∧ zsB Tryd.prog 102 = true := ⟨by kernel_rfl, by kernel_rfl⟩
theorem te152 : teOf Tryd.prog 152 = some ⟨1, 8, false, .v (.map none), none, [], none, 4, true, some (3, 3), none⟩ ∧ zsB Tryd.prog 152 = true := ⟨by kernel_rfl, by kernel_rfl⟩
theorem te112 : teOf Tryd.prog 112 = some ⟨2, 16, true, .agg [.v (.int .i64 0), .v (.int .i64 0)], none, [(0, 1, 0), (1, 1, 0)], none, 8, true, none, some 2⟩ ∧ zsB Tryd.prog 112 = true := ⟨by kernel_rfl, by kernel_rfl⟩
theorem te146 : teOf Tryd.prog 146 = some ⟨1, 8, true, .agg [.v (.int .i64 0)], none, [(0, 1, 0)], none, 8, true, none, some 1⟩ ∧ zsB Tryd.prog 146 = true := ⟨by kernel_rfl, by kernel_rfl⟩
theorem te157 : teOf Tryd.prog 157 = some ⟨11, 88, true, .agg [.v (.int .i64 0), .v (.int .i64 0), .v (.int .i64 0), .v (.int .i64 0), .v (.int .i64 0), .v (.int .i64 0), .v (.int .i64 0), .v (.int .i64 0), .v (.int .i64 0), .v (.int .i64 0), .v (.int .i64 0)], none, [(0, 3, 1), (3, 4, 1), (7, 4, 1)], none, 8, true, none, some 11⟩ ∧ zsB Tryd.prog 157 = true := ⟨by kernel_rfl, by kernel_rfl⟩
theorem te105 : teOf Tryd.prog 105 = some ⟨1, 24, false, .v (.slice none 0 0), some (none, 107), [], none, 3, true, none, none⟩ ∧ zsB Tryd.prog 105 = true := ⟨by kernel_rfl, by kernel_rfl⟩
theorem te110 : teOf Tryd.prog 110 = some ⟨1, 8, false, .v (.map none), none, [], none, 4, true, some (112, 3), none⟩ ∧ zsB Tryd.prog 110 = true := ⟨by kernel_rfl, by kernel_rfl⟩
theorem te122 : teOf Tryd.prog 122 = some ⟨1, 8, false, .v (.nilFunc), none, [], none, 6, true, none, none⟩ ∧ zsB Tryd.prog 122 = true := ⟨by kernel_rfl, by kernel_rfl⟩
theorem te123 : teOf Tryd.prog 123 = some ⟨1, 8, false, .v (.nilFunc), none, [], none, 6, true, none, none⟩ ∧ zsB Tryd.prog 123 = true := ⟨by kernel_rfl, by kernel_rfl⟩
theorem te128 : teOf Tryd.prog 128 = some ⟨1, 24, false, .v (.slice none 0 0), some (none, 132), [], none, 3, true, none, none⟩ ∧ zsB Tryd.prog 128 = true := ⟨by kernel_rfl, by kernel_rfl⟩
theorem te37 : teOf Tryd.prog 37 = some ⟨1, 24, false, .v (.slice none 0 0), some (none, 25), [], none, 3, true, none, none⟩ ∧ zsB Tryd.prog 37 = true := ⟨by kernel_rfl, by kernel_rfl⟩
theorem te159 : teOf Tryd.prog 159 = some ⟨1, 8, false, .v (.nilFunc), none, [], none, 6, true, none, none⟩ ∧ zsB Tryd.prog 159 = true := ⟨by kernel_rfl, by kernel_rfl⟩
theorem te67 : teOf Tryd.prog 67 = some ⟨1, 8, false, .v (.pointer none), none, [], none, 5, true, none, none⟩ ∧ zsB Tryd.prog 67 = true := ⟨by kernel_rfl, by kernel_rfl⟩
theorem te120 : teOf Tryd.prog 120 = some ⟨1, 8, false, .v (.nilFunc), none, [], none, 6, true, none, none⟩ ∧ zsB Tryd.prog 120 = true := ⟨by kernel_rfl, by kernel_rfl⟩
theorem te126 : teOf Tryd.prog 126 = some ⟨1, 8, false, .v (.nilFunc), none, [], none, 6, true, none, none⟩ ∧ zsB Tryd.prog 126 = true := ⟨by kernel_rfl, by kernel_rfl⟩
theorem te130 : teOf Tryd.prog 130 = some ⟨1, 8, false, .v (.nilFunc), none, [], none, 6, true, none, none⟩ ∧ zsB Tryd.prog 130 = true := ⟨by kernel_rfl, by kernel_rfl⟩
theorem te58 : teOf Tryd.prog 58 = some ⟨1, 8, false, .v (.nilFunc), none, [], none, 6, true, none, none⟩ ∧ zsB Tryd.prog 58 = true := ⟨by kernel_rfl, by kernel_rfl⟩
theorem te153 : teOf Tryd.prog 153 = some ⟨3, 24, true, .agg [.v (.int .i64 0), .v (.int .i64 0), .v (.int .i64 0)], some (some 3, 3), [], none, 9, true, none, some 3⟩ ∧ zsB Tryd.prog 153 = true := ⟨by kernel_rfl, by kernel_rfl⟩
theorem te20 : teOf Tryd.prog 20 = some ⟨1, 16, false, .v (.nilIface), none, [], none, 7, true, none, none⟩ ∧ zsB Tryd.prog 20 = true := ⟨by kernel_rfl, by kernel_rfl⟩
theorem te149 : teOf Tryd.prog 149 = some ⟨1, 16, false, .v (.nilIface), none, [], none, 7, true, none, none⟩ ∧ zsB Tryd.prog 149 = true := ⟨by kernel_rfl, by kernel_rfl⟩
theorem te151 : teOf Tryd.prog 151 = some ⟨1, 8, false, .v (.pointer none), none, [], none, 5, true, none, none⟩ ∧ zsB Tryd.prog 151 = true := ⟨by kernel_rfl, by kernel_rfl⟩
theorem tokT : TOK Tryd.prog TD := tok_of (fun _ => rfl) (
  ⟨te3, te24, te26, te22, te48, te55, te53, te25, te57, te39, te63, te59, te29, te4, te162, te76, te160, te116, te36, te73, te100, te81, te155, te107, te132, te9, te103, te164, te102, te152, te112, te146, te157, te105, te110, te122, te123, te128, te37, te159, te67, te120, te126, te130, te58, te153, te20, te149, te151, trivial⟩) (by kernel_rfl)

end Go.Proofs.YtmloogdalecilaaDoor

/-! D1 -/
namespace Go.Proofs.YtmloogdalecilaaDoor
open Go Go.Abs Go.Proofs

def I (x : Int) : D := .v (.int .i64 x)
def IL (l : List Int) : D := .sl 1 (l.map I)

theorem i64_ok {n : Int} (h : -9223372036854775808 ≤ n ∧ n ≤ 9223372036854775807) : IntKind.i64.wrap n = n := by rw [IntKind.wrap_i64]; omega

/-- Ints: a copy. -/
theorem ints (L : List D) (hL : L.length ≤ 1048576) (Q) (hq : ∀ n, n = L.length → Q (RA.ret (.o 0 1 n)) [.els 1 L]) :
    CallA Tryd.prog 37 [.sl 1 L] [] Q := by
  obtain ⟨A, hA⟩ : ∃ A, A = ar := ⟨_, rfl⟩
  refine callA_start tokT hA Tryd.func37 rfl rfl rfl rfl rfl fun S hS => ?_
  cbv
  subst hA
  refine ⟨rfl, by simp [ar]; omega, ?_⟩
  refine gh_view [1] (by decide) (fun i hi => absurd hi (by simp)) (H' := [.els 1 L]) (d' := .o 0 1 L.length) ⟨nthB_els rfl rfl, trivial⟩ ?_ (gh_done (hq _ rfl))
  simp [renD, ar]; rfl

/-- Lists: a copy. -/
theorem lists (L : List (List Int)) (L' : List D) (hL' : L' = L.map IL) (hL : L.length ≤ 1048576) (hL2 : ∀ l ∈ L, l.length ≤ 1048576) (Q) (hq : Q (RA.ret (.sl 1 L')) []) :
    CallA Tryd.prog 23 [.sl 1 L'] [] Q := by
  obtain ⟨A, hA⟩ : ∃ A, A = ar := ⟨_, rfl⟩
  have hl : L'.length = L.length := by rw [hL']; simp
  refine callA_start tokT hA Tryd.func23 rfl rfl rfl rfl rfl fun S hS => ?_
  cbv
  refine code_virt hS 3 1 rfl ?_
  cbv
  refine at_code hS ?_
  refine wpa_loopV (α := Int × Nat × List D) (fun x => { env := [(0, .sl 1 L'), (3, .o 0 1 x.2.1), (4, .v (.int .i64 x.1))], H := [.els 1 x.2.2], nt := 20, dfs := [] }) (fun x => L.length - x.2.1) (fun x => x.2.1 ≤ L.length ∧ x.1 = x.2.1 ∧ x.2.2 = L'.take x.2.1) (0, 0, []) ⟨Nat.zero_le _, rfl, rfl⟩ [0] ?_ ?_
  · exact ⟨by decide, fun i hi => absurd hi (by simp), ⟨rfl, trivial⟩, ⟨rfl, rfl, rfl, trivial⟩, rfl, rfl⟩
  rintro ⟨i, k, es⟩ ⟨hk, hi, hes⟩
  replace hk : k ≤ L.length := hk
  replace hi : i = (k : Int) := hi
  replace hes : es = L'.take k := hes
  refine wp_go tokT hA hS ?_
  cbv
  split
  · rename_i hc
    cbv
    replace hi : i = (k : Int) := hi
    have hlt : k < L.length := by subst hA; simp [ar, cmpI] at hc; omega
    obtain ⟨M, hM⟩ : ∃ M, M = (L[k]).map I := ⟨_, rfl⟩
    have hMl : M.length ≤ 1048576 := by rw [hM, List.length_map]; exact hL2 _ (List.getElem_mem hlt)
    refine ⟨by subst hA; simp [ar]; omega, ⟨.sl 1 M, by subst hA; simp [ar, hL', hi, hlt, hM, IL], ?_⟩⟩
    cbv
    refine ops_call hS [.sl 1 M] [] [] rfl rfl rfl rfl rfl rfl rfl rfl (by decide) trivial (ints M hMl _ fun n hn => ?_)
    refine ops_frz_go tokT hA hS [1] ?_
    cbv
    replace hi : i = (k : Int) := hi
    subst hA
    refine ⟨hn, by simp [ar, hes]; omega, rfl, by simp [ar]; omega, i64_ok (by simp [ar]; omega), (i + 1, k + 1, es ++ [.sl 1 M]), [3], ⟨by simp; omega, by simp; omega, ?_⟩, by simp; omega, ?_⟩
    · simp only [hes]
      rw [List.take_add_one]
      simp [hL', hlt, hM, IL]
    · exact ⟨by decide, fun i hi => absurd hi (by simp), ⟨rfl, trivial⟩, ⟨rfl, rfl, rfl, trivial⟩, rfl, rfl⟩
  · rename_i hc
    cbv
    replace hi : i = (k : Int) := hi
    have hlt : k = L.length := by subst hA; simp [ar, cmpI] at hc; omega
    have he : es = L' := by rw [hes, hlt, ← hl, List.take_length]
    subst hA
    refine gh_frz [0] ?_
    simp only [fzG, fzH, nmem, nthB]
    refine ⟨?_, gh_view [] (by decide) (fun i hi => absurd hi (by simp)) (H' := []) (d' := .sl 1 L') trivial (by rw [he]; rfl) (gh_done hq)⟩
    simp [ar, he]; omega
end Go.Proofs.YtmloogdalecilaaDoor

/-! D2 -/
namespace Go.Proofs.YtmloogdalecilaaDoor
open Go Go.Abs Go.Proofs

def U (x : Int) : D := .v (.int .u64 x)

/-- NewPot: a pot of some state. -/
theorem newPot (L : List D) (nums : List Int) (hL : L = nums.map I) (hl : L.length ≤ 1048576) (Q) (hq : ∀ x, Q (RA.ret (.b 0 0)) [.box (.agg [U x])]) :
    CallA Tryd.prog 19 [.sl 1 L] [] Q := by
  obtain ⟨A, hA⟩ : ∃ A, A = ar := ⟨_, rfl⟩
  refine callA_start tokT hA Tryd.func19 rfl rfl rfl rfl rfl fun S hS => ?_
  cbv
  refine at_code hS ?_
  refine wpa_loopV (α := Int × Nat × Int) (fun x => { env := [(0, .sl 1 L), (3, .b 0 0), (4, .v (.int .i64 x.1))], H := [.box (.agg [U x.2.2])], nt := 41, dfs := [] }) (fun x => L.length - x.2.1) (fun x => x.2.1 ≤ L.length ∧ x.1 = x.2.1) (0, 0, 2611923443488327891) ⟨Nat.zero_le _, rfl⟩ [0] ?_ ?_
  · exact ⟨by decide, fun i hi => absurd hi (by simp), ⟨rfl, trivial⟩, ⟨rfl, rfl, rfl, trivial⟩, rfl, rfl⟩
  rintro ⟨i, k, x⟩ ⟨hk, hi⟩
  replace hk : k ≤ L.length := hk
  replace hi : i = (k : Int) := hi
  refine wp_go tokT hA hS ?_
  cbv
  split
  · rename_i hc
    cbv
    replace hi : i = (k : Int) := hi
    have hlt : k < L.length := by subst hA; simp [ar, cmpI] at hc; omega
    refine draw_go tokT hA hS [0, 1, 2, 3, 4, 5, 6, 7, 8, 9, 10, 11, 12, 13, 14] rfl rfl fun Dk hD => ?_
    cbv
    replace hi : i = (k : Int) := hi
    obtain ⟨y, hy⟩ : ∃ y, y = nums[k]'(by rw [hL] at hlt; simpa using hlt) := ⟨_, rfl⟩
    refine ⟨by subst hA; simp [ar]; omega, ⟨.v (.int .i64 y), by subst hA; simp [ar, hL, hi, hy, I], ?_⟩⟩
    cbv
    refine draw_go tokT hA hS [0, 1, 2, 3, 4, 5, 6, 7, 8, 9, 10, 11, 12, 13] rfl rfl fun Dk hD2 => ?_
    cbv
    replace hi : i = (k : Int) := hi
    subst hA
    refine ⟨by simp [ar], i64_ok (by simp [ar]; omega), (i + 1, k + 1, _), [0], ⟨by simp; omega, by simp; omega⟩, by simp; omega, by decide, fun i hi => absurd hi (by simp), ⟨rfl, trivial⟩, ⟨rfl, rfl, rfl, trivial⟩, rfl, rfl⟩
  · rename_i hc
    cbv
    refine gh_done (hq x)
end Go.Proofs.YtmloogdalecilaaDoor

/-! D3 -/
namespace Go.Proofs.YtmloogdalecilaaDoor
open Go Go.Abs Go.Proofs

/-- The pot of numbers, as a block. -/
def pot (x : Int) : Blk := .box (.agg [U x])

theorem u64_nn (n : Int) : 0 ≤ IntKind.u64.wrap n := by
  have : IntKind.u64.wrap n = n % 18446744073709551616 := rfl
  rw [this]; exact Int.emod_nonneg _ (by decide)

theorem xor_nn (x y : Int) : 0 ≤ ar.bits .xor .u64 x y := u64_nn _

theorem fits64 {n : Int} (h : -9223372036854775808 ≤ n ∧ n ≤ 9223372036854775807) : ar.fits .i64 n := i64_ok h

theorem nn33 {n : Int} (h : 0 ≤ n) : ar.nneg n := h

theorem step (x : Int) (Q) (hq : ∀ y x', 0 ≤ y → Q (RA.ret (U y)) [pot x']) : CallA Tryd.prog 84 [.b 0 0] [pot x] Q := by
  obtain ⟨A, hA⟩ : ∃ A, A = ar := ⟨_, rfl⟩
  refine callA_start tokT hA Tryd.func84 rfl rfl rfl rfl rfl fun S hS => ?_
  cbv
  refine ⟨by subst hA; exact nn33 (by decide), by subst hA; exact nn33 (by decide), by subst hA; exact nn33 (by decide), gh_done (hq _ _ ?_)⟩
  subst hA; exact xor_nn _ _

theorem upto (x most : Int) (hm : most ≤ 1000000000000) (Q) (hq : ∀ n x', 0 ≤ n → (n ≤ most ∨ n = 0) → Q (RA.ret (I n)) [pot x']) : CallA Tryd.prog 35 [.b 0 0, I most] [pot x] Q := by
  obtain ⟨A, hA⟩ : ∃ A, A = ar := ⟨_, rfl⟩
  refine callA_start tokT hA Tryd.func35 rfl rfl rfl rfl rfl fun S hS => ?_
  cbv
  split
  · cbv
    exact gh_done (hq 0 x (by omega) (.inr rfl))
  · rename_i hc
    cbv
    refine ops_call hS [.b 0 0] [0] [pot x] rfl rfl rfl rfl rfl rfl rfl rfl (by decide) ⟨rfl, trivial⟩ (step x _ fun y x' hy => ?_)
    refine ops_go tokT hA hS ?_
    cbv
    subst hA
    have hlt : 1 ≤ most := by simp [ar, cmpI] at hc; omega
    refine ⟨nn33 (by decide), fits64 (by simp [ar]; omega), by
      show IntKind.u64.wrap (most + 1) ≠ 0
      have : IntKind.u64.wrap (most + 1) = (most + 1) % 18446744073709551616 := rfl
      rw [this, Int.emod_eq_of_lt (by omega) (by omega)]; omega, gh_done (hq _ x' ?_ (.inl ?_))⟩
    all_goals
      have e : ar.wrap .i64 (ar.rem (ar.shift .shr .u64 y 11) (ar.wrap .u64 (ar.add most 1))) = (y.fdiv (2 ^ 11)).tmod (most + 1) := by
        have e1 : IntKind.u64.wrap (most + 1) = most + 1 := by
          have : IntKind.u64.wrap (most + 1) = (most + 1) % 18446744073709551616 := rfl
          rw [this, Int.emod_eq_of_lt (by omega) (by omega)]
        have h1 : 0 ≤ y.fdiv (2 ^ 11) := Int.fdiv_nonneg hy (by decide)
        have h2 := Int.tmod_nonneg (most + 1) h1
        have h3 := Int.tmod_lt_of_pos (y.fdiv (2 ^ 11)) (show 0 < most + 1 by omega)
        show IntKind.i64.wrap ((y.fdiv (2 ^ 11)).tmod (IntKind.u64.wrap (most + 1))) = _
        rw [e1]
        exact i64_ok ⟨by omega, by omega⟩
      have h1 : 0 ≤ y.fdiv (2 ^ 11) := Int.fdiv_nonneg hy (by decide)
      have h2 := Int.tmod_nonneg (most + 1) h1
      have h3 := Int.tmod_lt_of_pos (y.fdiv (2 ^ 11)) (show 0 < most + 1 by omega)
      first
      | exact le_of_le_of_eq h2 e.symm
      | exact le_of_eq_of_le e (by omega)

theorem within (x least most : Int) (hm : -1000000000 ≤ least ∧ least ≤ 1000000000 ∧ -1000000000 ≤ most ∧ most ≤ 1000000000) (Q) (hq : ∀ n x', least ≤ n → (n ≤ most ∨ n = least) → Q (RA.ret (I n)) [pot x']) : CallA Tryd.prog 71 [.b 0 0, I least, I most] [pot x] Q := by
  obtain ⟨A, hA⟩ : ∃ A, A = ar := ⟨_, rfl⟩
  refine callA_start tokT hA Tryd.func71 rfl rfl rfl rfl rfl fun S hS => ?_
  cbv
  refine ⟨by subst hA; exact fits64 (by simp [ar]; omega), ?_⟩
  refine ops_call hS [.b 0 0, I (A.sub most least)] [0] [pot x] rfl rfl rfl rfl rfl rfl rfl rfl (by decide) ⟨rfl, trivial⟩ (upto x _ (by subst hA; simp [ar]; omega) _ fun n x' h1 h2 => ?_)
  refine ops_go tokT hA hS ?_
  cbv
  subst hA
  replace h1 : 0 ≤ n := h1
  replace h2 : n ≤ most - least ∨ n = 0 := h2
  exact ⟨fits64 (by simp [ar]; omega), gh_done (hq (least + n) x' (by omega) (by omega))⟩

theorem odds (x n m : Int) (hm : 0 ≤ m ∧ m ≤ 1000000000) (Q) (hq : ∀ b x', Q (RA.ret (.v (.bool b))) [pot x']) : CallA Tryd.prog 36 [.b 0 0, I n, I m] [pot x] Q := by
  obtain ⟨A, hA⟩ : ∃ A, A = ar := ⟨_, rfl⟩
  refine callA_start tokT hA Tryd.func36 rfl rfl rfl rfl rfl fun S hS => ?_
  cbv
  refine ⟨by subst hA; exact fits64 (by simp [ar]; omega), ?_⟩
  refine ops_call hS [.b 0 0, I (A.sub m 1)] [0] [pot x] rfl rfl rfl rfl rfl rfl rfl rfl (by decide) ⟨rfl, trivial⟩ (upto x _ (by subst hA; simp [ar]; omega) _ fun n x' h1 h2 => ?_)
  refine ops_go tokT hA hS ?_
  cbv
  exact gh_done (hq _ x')

theorem of_ (x : Int) (L : List D) (l : List Int) (hL : L = l.map I) (hl : l.length ≤ 1000) (hl0 : l ≠ []) (Q) (hq : ∀ n x', n ∈ l → Q (RA.ret (I n)) [pot x']) : CallA Tryd.prog 34 [.b 0 0, .sl 1 L] [pot x] Q := by
  obtain ⟨A, hA⟩ : ∃ A, A = ar := ⟨_, rfl⟩
  have hlen : L.length = l.length := by rw [hL]; simp
  have hpos : 0 < l.length := List.length_pos_iff.2 hl0
  refine callA_start tokT hA Tryd.func34 rfl rfl rfl rfl rfl fun S hS => ?_
  cbv
  split
  · rename_i hc
    exfalso; subst hA
    replace hc : ((L.length : Int) == 0) = true := hc
    have := eq_of_beq hc
    omega
  · cbv
    refine ⟨by subst hA; exact fits64 (n := (L.length : Int) - 1) (by omega), ?_⟩
    refine ops_call hS [.b 0 0, I (A.sub (A.oi (A.len L)) 1)] [0] [pot x] rfl rfl rfl rfl rfl rfl rfl rfl (by decide) ⟨rfl, trivial⟩ (upto x _ (by subst hA; show (L.length : Int) - 1 ≤ _; omega) _ fun n x' h1 h2 => ?_)
    refine ops_go tokT hA hS ?_
    cbv
    have h2' : n < l.length := by
      subst hA
      replace h2 : n ≤ (L.length : Int) - 1 ∨ n = 0 := h2
      omega
    replace h1 : 0 ≤ n := h1
    obtain ⟨k, rfl⟩ := Int.eq_ofNat_of_zero_le h1
    have hk : k < l.length := by omega
    obtain ⟨z, hz⟩ : ∃ z, z = l[k] := ⟨_, rfl⟩
    refine ⟨by subst hA; show 0 ≤ (k : Int) ∧ (k : Int) < (L.length : Nat); omega, ⟨I z, by subst hA; simp [ar, hL, hk, hz], ?_⟩⟩
    cbv
    exact gh_done (hq _ x' (hz ▸ List.getElem_mem hk))
end Go.Proofs.YtmloogdalecilaaDoor

/-! D4 -/
namespace Go.Proofs.YtmloogdalecilaaDoor
open Go Go.Abs Go.Proofs

theorem near (x n least most wide : Int) (hn : -100000 ≤ least ∧ least ≤ n ∧ n ≤ most ∧ most ≤ 100000) (hw : 0 ≤ wide ∧ wide ≤ 100000) (Q)
    (hq : ∀ lo hi x', least ≤ lo → lo ≤ n → n ≤ hi → hi ≤ most → Q (RA.ret (.agg [I lo, I hi])) [pot x']) :
    CallA Tryd.prog 100 [.b 0 0, I n, I least, I most, I wide] [pot x] Q := by
  obtain ⟨A, hA⟩ : ∃ A, A = ar := ⟨_, rfl⟩
  refine callA_start tokT hA Tryd.func100 rfl rfl rfl rfl rfl fun S hS => ?_
  cbv
  refine ops_call hS [.b 0 0, I wide] [0] [pot x] rfl rfl rfl rfl rfl rfl rfl rfl (by decide) ⟨rfl, trivial⟩ (upto x _ (by omega) _ fun a xa ha1 ha2 => ?_)
  refine ops_go tokT hA hS ?_
  cbv
  refine ops_gs hS (gs_frz hA [2] ?_)
  cbv
  refine ⟨by subst hA; rfl, gs_done ?_⟩
  refine ops_call hS [.b 0 0, .sl 1 [I 0, I 0, I a]] [0] [pot xa] rfl rfl rfl rfl rfl rfl rfl rfl (by decide) ⟨rfl, trivial⟩ (of_ xa _ [0, 0, a] rfl (Nat.le_of_ble_eq_true rfl) (by simp) _ fun o xo ho => ?_)
  have ho' : 0 ≤ o ∧ (o ≤ wide ∨ o = 0) := by simp at ho; omega
  refine ops_go tokT hA hS ?_
  cbv
  refine ⟨by subst hA; exact fits64 (n := n - o) (by omega), ?_⟩
  refine ops_call hS [.b 0 0, I wide] [0] [pot xo] rfl rfl rfl rfl rfl rfl rfl rfl (by decide) ⟨rfl, trivial⟩ (upto xo _ (by omega) _ fun c xc hc1 hc2 => ?_)
  refine ops_go tokT hA hS ?_
  cbv
  refine ops_gs hS (gs_frz hA [3] ?_)
  cbv
  refine ⟨by subst hA; rfl, gs_done ?_⟩
  refine ops_call hS [.b 0 0, .sl 1 [I 0, I 0, I c]] [0] [pot xc] rfl rfl rfl rfl rfl rfl rfl rfl (by decide) ⟨rfl, trivial⟩ (of_ xc _ [0, 0, c] rfl (Nat.le_of_ble_eq_true rfl) (by simp) _ fun p xp hp => ?_)
  have hp' : 0 ≤ p ∧ (p ≤ wide ∨ p = 0) := by simp at hp; omega
  refine ops_go tokT hA hS ?_
  cbv
  subst hA
  refine ⟨fits64 (n := n + p) (by omega), gh_view [0] (by decide) (by decide) (H' := [pot xp]) (d' := .agg [I (if n - o > least then n - o else least), I (if n + p < most then n + p else most)]) ⟨rfl, trivial⟩ rfl (gh_done (hq _ _ xp ?_ ?_ ?_ ?_))⟩
  all_goals split <;> omega

theorem inner (x lo hi : Int) (h : -1000000 ≤ lo ∧ lo ≤ hi ∧ hi ≤ 1000000) (Q) (hq : ∀ n x', lo ≤ n → n ≤ hi → Q (RA.ret (I n)) [pot x']) :
    CallA Tryd.prog 88 [.b 0 0, .agg [I lo, I hi]] [pot x] Q := by
  obtain ⟨A, hA⟩ : ∃ A, A = ar := ⟨_, rfl⟩
  refine callA_start tokT hA Tryd.func88 rfl rfl rfl rfl rfl fun S hS => ?_
  cbv
  refine draw_go tokT hA hS [0, 1, 2, 3, 4, 5, 6, 7, 8, 9, 10, 11, 12, 13] rfl rfl fun Dk hD => ?_
  cbv
  refine draw_call hA hD [.b 0 0, I lo, I hi] [0] [pot x] rfl rfl rfl rfl rfl rfl rfl rfl rfl rfl rfl (by decide) ⟨rfl, trivial⟩ (within x lo hi (by omega) _ fun n xn hn1 hn2 => ⟨by cbv, draw_on tokT hA hD ?_⟩)
  cbv
  refine draw_callF hA hD [2] rfl rfl rfl rfl rfl rfl fun CG hC => ?_
  cbv
  refine ⟨by subst hA; rfl, ?_⟩
  rw [hC]
  refine callG_of [.b 0 0, .sl 1 [I lo, I hi, I n]] [0] [pot xn] rfl rfl rfl rfl rfl (by decide) ⟨rfl, trivial⟩ (of_ xn _ [lo, hi, n] rfl (Nat.le_of_ble_eq_true rfl) (by simp) _ fun o xo ho => aftG_of hA tokT hD ?_ ?_)
  · cbv
  cbv
  refine gh_view [0] (by decide) (by decide) (H' := [pot xo]) (d' := I o) ⟨rfl, trivial⟩ rfl (gh_done (hq _ xo ?_ ?_))
  all_goals simp at ho; omega
end Go.Proofs.YtmloogdalecilaaDoor

/-! D5 -/
namespace Go.Proofs.YtmloogdalecilaaDoor
open Go Go.Abs Go.Proofs

/-- A work, an order, a shop. -/
structure Wk where
  b : Int
  lo : Int
  hi : Int
  deriving DecidableEq
structure Tk where
  ready : Int
  due : Int
  works : List Wk
  deriving DecidableEq
structure Sh where
  benches : Int
  tasks : List Tk
  deriving DecidableEq

def workD (w : Wk) : D := .agg [I w.b, I w.lo, I w.hi]
def taskD (t : Tk) : D := .agg [I t.ready, I t.due, .sl 3 (t.works.map workD)]
def shopD (s : Sh) : D := .agg [I s.benches, .sl 3 (s.tasks.map taskD)]

/-- What the shops that are made of numbers keep to. -/
structure OkW (b : Int) (w : Wk) : Prop where
  b0 : 0 ≤ w.b
  b1 : w.b < b
  lo : 1 ≤ w.lo
  le : w.lo ≤ w.hi
  hi : w.hi ≤ 20
structure OkT (b : Int) (t : Tk) : Prop where
  r0 : 0 ≤ t.ready
  r1 : t.ready ≤ 6
  d0 : 4 ≤ t.due
  d1 : t.due ≤ 20
  w0 : 1 ≤ t.works.length
  w1 : t.works.length ≤ 3
  wk : ∀ w ∈ t.works, OkW b w
def nWorks (l : List Tk) : Nat := (l.map (·.works.length)).sum
structure OkS (n m : Nat) (s : Sh) : Prop where
  b0 : 1 ≤ s.benches
  b1 : s.benches ≤ 3
  len : s.tasks.length ≤ n
  sum : nWorks s.tasks ≤ m
  tk : ∀ t ∈ s.tasks, OkT s.benches t

theorem workOf (x b : Int) (hb : 1 ≤ b ∧ b ≤ 3) (Q) (hq : ∀ w x', OkW b w → Q (RA.ret (workD w)) [pot x']) : CallA Tryd.prog 64 [.b 0 0, I b] [pot x] Q := by
  obtain ⟨A, hA⟩ : ∃ A, A = ar := ⟨_, rfl⟩
  refine callA_start tokT hA Tryd.func64 rfl rfl rfl rfl rfl fun S hS => ?_
  cbv
  refine ⟨by subst hA; exact fits64 (n := b - 1) (by omega), ?_⟩
  refine ops_call hS [.b 0 0, I (A.sub b 1)] [0] [pot x] rfl rfl rfl rfl rfl rfl rfl rfl (by decide) ⟨rfl, trivial⟩ (upto x _ (by subst hA; show b - 1 ≤ _; omega) _ fun n xn h1 h2 => ?_)
  refine ops_go tokT hA hS ?_
  cbv
  refine ops_call hS [.b 0 0, I 1, I 7] [0] [pot xn] rfl rfl rfl rfl rfl rfl rfl rfl (by decide) ⟨rfl, trivial⟩ (within xn 1 7 (by decide) _ fun k xk k1 k2 => ?_)
  refine ops_go tokT hA hS ?_
  cbv
  refine ops_call hS [.b 0 0, I k, I 1, I 20, I 3] [0] [pot xk] rfl rfl rfl rfl rfl rfl rfl rfl (by decide) ⟨rfl, trivial⟩ (near xk k 1 20 3 (by omega) (by decide) _ fun lo hi xp p1 p2 p3 p4 => ?_)
  refine ops_go tokT hA hS ?_
  cbv
  have h2' : n ≤ b - 1 ∨ n = 0 := by subst hA; exact h2
  refine gh_view [0] (by decide) (by decide) (H' := [pot xp]) (d' := .agg [I n, I lo, I hi]) ⟨rfl, trivial⟩ rfl (gh_done (hq ⟨n, lo, hi⟩ xp ⟨h1, by simp; omega, p1, by simp; omega, p4⟩))

theorem shopOf (x tasks works : Int) (ht : 0 ≤ tasks ∧ tasks ≤ 4) (hw : 0 ≤ works ∧ works ≤ 8) (Q) (hq : ∀ s x', OkS tasks.toNat works.toNat s → Q (RA.ret (shopD s)) [pot x']) :
    CallA Tryd.prog 20 [.b 0 0, I tasks, I works] [pot x] Q := by
  obtain ⟨A, hA⟩ : ∃ A, A = ar := ⟨_, rfl⟩
  refine callA_start tokT hA Tryd.func20 rfl rfl rfl rfl rfl fun S hS => ?_
  cbv
  refine ops_call hS [.b 0 0, I 1, I 3] [0] [pot x] rfl rfl rfl rfl rfl rfl rfl rfl (by decide) ⟨rfl, trivial⟩ (within x 1 3 (by decide) _ fun b xb hb1 hb2 => ?_)
  refine ops_go tokT hA hS ?_
  cbv
  have e4 : A.min tasks 4 = tasks := by subst hA; show (if _ then _ else _) = _; split <;> omega
  refine ops_call hS [.b 0 0, I (A.min tasks 4)] [0] [pot xb] rfl rfl rfl rfl rfl rfl rfl rfl (by decide) ⟨rfl, trivial⟩ (upto xb _ (by rw [e4]; omega) _ fun i0 xi hi1 hi2 => ?_)
  rw [e4] at hi2
  refine ops_go tokT hA hS ?_
  cbv
  have e8 : A.min works 8 = works := by subst hA; show (if _ then _ else _) = _; split <;> omega
  refine at_code hS ?_
  refine wpa_loopG (α := Int × Int × List Tk × List D × Nat × Int) (fun p => { env := [(0, .b 0 0), (6, .b 1 0), (7, .b 2 0), (8, I p.2.1), (9, I p.1)], H := [pot p.2.2.2.2.2, .box (.agg [I 0, .v (.slice none 0 0)]), .box (.agg [I b, .o 3 3 p.2.2.2.2.1]), .els 3 p.2.2.2.1], nt := 63, dfs := [] })
    (fun p => p.1.toNat) (fun p => p.1 + p.2.2.1.length ≤ tasks ∧ 0 ≤ p.1 ∧ 0 ≤ p.2.1 ∧ p.2.1 + nWorks p.2.2.1 ≤ works ∧ (∀ t ∈ p.2.2.1, OkT b t) ∧ p.2.2.2.1 = p.2.2.1.map taskD ∧ p.2.2.2.2.1 = p.2.2.1.length) (i0, works, [], [], 0, xi) ⟨by simp; omega, by omega, hw.1, by simp [nWorks], by simp, rfl, rfl⟩ ?_ ?_
  · refine gs_virtB 2 1 3 (.agg [I b, .o 3 3 0]) rfl rfl rfl (gs_to [0, 1, 2, 3] ⟨by decide, pre1, ⟨rfl, rfl, rfl, rfl, trivial⟩, ⟨rfl, rfl, rfl, congrArg (fun z => some (I z)) e8, rfl, trivial⟩, rfl, rfl⟩)
  rintro ⟨i, left, ts, TL, n, y⟩ ⟨p1, p2, p3, p4, p5, p6, p7⟩
  dsimp only at p1 p2 p3 p4 p5 p6 p7
  have hTl : TL.length = n := by rw [p6, p7]; simp
  have hend : OkS tasks.toNat works.toNat ⟨b, ts⟩ := ⟨hb1, by simp only; omega, by simp only; omega, by simp only; omega, p5⟩
  refine wp_go tokT hA hS ?_
  cbv
  split
  · rename_i c1
    cbv
    split
    · rename_i c2
      cbv
      have c1' : 0 < i := by subst hA; simpa [ar, cmpI] using c1
      have c2' : 0 < left := by subst hA; simpa [ar, cmpI] using c2
      refine ops_call hS [.b 0 0, I 6] [0] [pot y] rfl rfl rfl rfl rfl rfl rfl rfl (by decide) ⟨rfl, trivial⟩ (upto y 6 (by decide) _ fun o yo ho1 ho2 => ?_)
      refine ops_go tokT hA hS ?_
      cbv
      refine ops_gs hS (gs_frz hA [4] ?_)
      cbv
      refine ⟨by subst hA; rfl, gs_done ?_⟩
      refine ops_call hS [.b 0 0, .sl 1 [I 0, I 0, I o]] [0] [pot yo] rfl rfl rfl rfl rfl rfl rfl rfl (by decide) ⟨rfl, trivial⟩ (of_ yo _ [0, 0, o] rfl (Nat.le_of_ble_eq_true rfl) (by simp) _ fun ready yr hr => ?_)
      refine ops_go tokT hA hS ?_
      cbv
      refine ops_call hS [.b 0 0, I 4, I 20] [0] [pot yr] rfl rfl rfl rfl rfl rfl rfl rfl (by decide) ⟨rfl, trivial⟩ (within yr 4 20 (by decide) _ fun due yd hd1 hd2 => ?_)
      refine ops_go tokT hA hS ?_
      cbv
      refine ops_call hS [.b 0 0, I 1, I (A.min 3 left)] [0] [pot yd] rfl rfl rfl rfl rfl rfl rfl rfl (by decide) ⟨rfl, trivial⟩ (within yd 1 _ (by subst hA; show _ ∧ _ ∧ _ ≤ (if _ then _ else _) ∧ (if _ then _ else _) ≤ _; split <;> omega) _ fun k0 yk hk1 hk2 => ?_)
      refine ops_go tokT hA hS ?_
      cbv
      refine at_code hS ?_
      have hk3 : k0 ≤ 3 ∧ k0 ≤ left := by
        subst hA
        have : ar.min 3 left = if left < 3 then left else 3 := rfl
        rw [this] at hk2
        split at hk2 <;> omega
      have hr' : 0 ≤ ready ∧ ready ≤ 6 := by simp at hr; omega
      refine wpa_loopG (α := Int × Int × List Wk × List D × Nat × Int) (fun p => { env := [(0, .b 0 0), (6, .b 1 0), (7, .b 2 0), (8, I p.2.1), (9, I i), (10, .b 4 0), (11, I p.1)], H := [pot p.2.2.2.2.2, .box (.agg [I 0, .v (.slice none 0 0)]), .box (.agg [I b, .o 3 3 n]), .els 3 TL, .box (.agg [I ready, I due, .o 5 3 p.2.2.2.2.1]), .els 3 p.2.2.2.1], nt := 63, dfs := [] })
        (fun p => p.1.toNat) (fun p => p.1 + p.2.2.1.length = k0 ∧ 0 ≤ p.1 ∧ p.2.1 + p.2.2.1.length = left ∧ (∀ w ∈ p.2.2.1, OkW b w) ∧ p.2.2.2.1 = p.2.2.1.map workD ∧ p.2.2.2.2.1 = p.2.2.1.length) (k0, left, [], [], 0, yk) ⟨by simp, by omega, by simp, by simp, rfl, rfl⟩ ?_ ?_
      · refine gs_virtB 5 2 3 (.agg [I ready, I due, .o 6 3 0]) rfl rfl rfl (gs_to [0, 1, 2, 3, 5, 6] ⟨by decide, pre1, ⟨rfl, rfl, rfl, rfl, rfl, rfl, trivial⟩, ⟨rfl, rfl, rfl, rfl, rfl, rfl, rfl, trivial⟩, rfl, rfl⟩)
      rintro ⟨k, left', ws, WL, n', y'⟩ ⟨q1, q2, q3, q4, q5, q6⟩
      dsimp only at q1 q2 q3 q4 q5 q6
      have hWl : WL.length = n' := by rw [q5, q6]; simp
      refine wp_go tokT hA hS ?_
      cbv
      split
      · rename_i c3
        cbv
        have c3' : 0 < k := by subst hA; simpa [ar, cmpI] using c3
        refine draw_go tokT hA hS [0, 1, 2, 3, 4, 5, 6, 7, 8, 9] rfl rfl fun Dk hD => ?_
        cbv
        refine draw_call hA hD [.b 0 0, I b] [0] [pot y'] rfl rfl rfl rfl rfl rfl rfl rfl rfl rfl rfl (by decide) ⟨rfl, trivial⟩ (workOf y' b (by omega) _ fun w yw hw' => ⟨by cbv, draw_on tokT hA hD ?_⟩)
        cbv
        replace p1 : i + (ts.length : Int) ≤ tasks := p1
        replace p4 : left + (nWorks ts : Int) ≤ works := p4
        replace q1 : k + (ws.length : Int) = k0 := q1
        replace q3 : left' + (ws.length : Int) = left := q3
        refine ⟨by subst hA; exact hWl.symm, by subst hA; rfl, by subst hA; simp [ar] <;> omega, by subst hA; exact fits64 (n := left' - 1) (by omega), by subst hA; exact fits64 (n := k - 1) (by omega), ?_⟩
        subst hA
        refine gs_loop (k - 1, left' - 1, ws ++ [w], WL ++ [workD w], n' + 1, yw) [0, 1, 2, 3, 4, 7] ?_ ?_ ?_
        · exact ⟨by simp; omega, by dsimp only; omega, by simp; omega, fun w2 h2 => by
          rcases List.mem_append.1 h2 with h2 | h2
          · exact q4 w2 h2
          · simp at h2; subst h2; exact hw', by simp [q5], by simp [q6]⟩
        · dsimp only; omega
        · exact ⟨by decide, pre1, ⟨rfl, rfl, rfl, rfl, rfl, rfl, trivial⟩, ⟨rfl, rfl, rfl, rfl, rfl, rfl, rfl, trivial⟩, rfl, rfl⟩
      · rename_i c3
        have c3' : k = 0 := by
          have : ¬ (k > 0) := by subst hA; simpa [ar, cmpI] using c3
          omega
        replace p1 : i + (ts.length : Int) ≤ tasks := p1
        replace p4 : left + (nWorks ts : Int) ≤ works := p4
        replace q1 : k + (ws.length : Int) = k0 := q1
        replace q3 : left' + (ws.length : Int) = left := q3
        cbv
        refine gs_frz hA [5] ?_
        cbv
        refine ⟨by subst hA; exact hWl.symm, gs_done ?_⟩
        cbv
        replace p1 : i + (ts.length : Int) ≤ tasks := p1
        replace p4 : left + (nWorks ts : Int) ≤ works := p4
        replace q1 : k + (ws.length : Int) = k0 := q1
        replace q3 : left' + (ws.length : Int) = left := q3
        refine ⟨by subst hA; exact hTl.symm, by subst hA; rfl, by subst hA; simp [ar] <;> omega, by subst hA; exact fits64 (n := i - 1) (by omega), ?_⟩
        subst hA
        refine gs_loop (i - 1, left', ts ++ [⟨ready, due, ws⟩], TL ++ [.agg [I ready, I due, .sl 3 WL]], n + 1, y') [0, 1, 2, 7] ?_ ?_ ?_
        · exact ⟨by simp; omega, by dsimp only; omega, by dsimp only; omega, by simp [nWorks] at p4 ⊢; omega, fun t2 h2 => by
          rcases List.mem_append.1 h2 with h2 | h2
          · exact p5 t2 h2
          · simp at h2; subst h2; exact ⟨hr'.1, hr'.2, hd1, by simp only; omega, by simp only; omega, by simp only; omega, q4⟩, by simp [p6, q5, taskD], by simp [p7]⟩
        · dsimp only; omega
        · exact ⟨by decide, pre1, ⟨rfl, rfl, rfl, rfl, trivial⟩, ⟨rfl, rfl, rfl, rfl, rfl, trivial⟩, rfl, rfl⟩
    · cbv
      refine gs_frz hA [3] ?_
      cbv
      refine ⟨by subst hA; exact hTl.symm, gs_done ?_⟩
      cbv
      exact gh_view [0] (by decide) (by decide) (H' := [pot y]) (d' := .agg [I b, .sl 3 TL]) ⟨rfl, trivial⟩ rfl (gh_done (by
        have := hq ⟨b, ts⟩ y hend
        rw [shopD, ← p6] at this; exact this))
  · cbv
    refine gs_frz hA [3] ?_
    cbv
    refine ⟨by subst hA; exact hTl.symm, gs_done ?_⟩
    cbv
    exact gh_view [0] (by decide) (by decide) (H' := [pot y]) (d' := .agg [I b, .sl 3 TL]) ⟨rfl, trivial⟩ rfl (gh_done (by
      have := hq ⟨b, ts⟩ y hend
      rw [shopD, ← p6] at this; exact this))
end Go.Proofs.YtmloogdalecilaaDoor

/-! D6 -/
namespace Go.Proofs.YtmloogdalecilaaDoor
open Go Go.Abs Go.Proofs

theorem cmpT {x y : Int} : ar.cmp .lss x y = true ↔ x < y := by simp [ar, cmpI]

theorem bWithin (n lo hi : Int) (Q) (hq : Q (RA.ret (.v (.bool (decide (lo ≤ n ∧ n ≤ hi))))) []) : CallA Tryd.prog 92 [I n, I lo, I hi] [] Q := by
  obtain ⟨A, hA⟩ : ∃ A, A = ar := ⟨_, rfl⟩
  refine callA_start tokT hA Tryd.func92 rfl rfl rfl rfl rfl fun S hS => ?_
  cbv
  split
  · rename_i h; cbv
    have h' : lo ≤ n := by subst hA; simpa [ar, cmpI] using h
    have e : ar.cmp .leq n hi = decide (lo ≤ n ∧ n ≤ hi) := by simp [ar, cmpI, h']
    subst hA
    rw [← e] at hq
    exact gh_done hq
  · rename_i h; cbv
    have h' : ¬ lo ≤ n := by subst hA; simpa [ar, cmpI] using h
    have e : decide (lo ≤ n ∧ n ≤ hi) = false := by simp [h']
    rw [e] at hq
    exact gh_done hq

theorem rAmong (n lo hi : Int) (Q) (hq : Q (RA.ret (.v (.bool (decide (lo ≤ n ∧ n ≤ hi))))) []) : CallA Tryd.prog 95 [I n, I lo, I hi] [] Q := by
  obtain ⟨A, hA⟩ : ∃ A, A = ar := ⟨_, rfl⟩
  refine callA_start tokT hA Tryd.func95 rfl rfl rfl rfl rfl fun S hS => ?_
  cbv
  split
  · rename_i h; cbv
    have h' : n ≥ lo := by subst hA; simpa [ar, cmpI] using h
    have e : ar.cmp .leq n hi = decide (lo ≤ n ∧ n ≤ hi) := by simp [ar, cmpI, h']
    subst hA
    rw [← e] at hq
    exact gh_done hq
  · rename_i h; cbv
    have h' : ¬ lo ≤ n := by subst hA; simpa [ar, cmpI] using h
    have e : decide (lo ≤ n ∧ n ≤ hi) = false := by simp [h']
    rw [e] at hq
    exact gh_done hq

/-- to, work. -/
theorem toF (lo hi : Int) (Q) (hq : Q (RA.ret (.agg [I lo, I hi])) []) : CallA Tryd.prog 46 [I lo, I hi] [] Q := by
  obtain ⟨A, hA⟩ : ∃ A, A = ar := ⟨_, rfl⟩
  refine callA_start tokT hA Tryd.func46 rfl rfl rfl rfl rfl fun S hS => ?_
  cbv
  exact gh_view [] (by decide) pre0 (H' := []) (d' := .agg [I lo, I hi]) trivial rfl (gh_done hq)

theorem workF (b lo hi : Int) (Q) (hq : Q (RA.ret (.agg [I b, I lo, I hi])) []) : CallA Tryd.prog 104 [I b, I lo, I hi] [] Q := by
  obtain ⟨A, hA⟩ : ∃ A, A = ar := ⟨_, rfl⟩
  refine callA_start tokT hA Tryd.func104 rfl rfl rfl rfl rfl fun S hS => ?_
  cbv
  exact gh_view [] (by decide) pre0 (H' := []) (d' := .agg [I b, I lo, I hi]) trivial rfl (gh_done hq)

theorem later (a b c d : Int) (Q) (hq : Q (RA.ret (.agg [I (max a c), I (max b d)])) []) : CallA Tryd.prog 119 [.agg [I a, I b], .agg [I c, I d]] [] Q := by
  obtain ⟨A, hA⟩ : ∃ A, A = ar := ⟨_, rfl⟩
  refine callA_start tokT hA Tryd.func119 rfl rfl rfl rfl rfl fun S hS => ?_
  cbv
  have e1 : A.max a c = max a c := by subst hA; show (if _ then _ else _) = _; rw [Int.max_def]; split <;> split <;> omega
  have e2 : A.max b d = max b d := by subst hA; show (if _ then _ else _) = _; rw [Int.max_def]; split <;> split <;> omega
  exact gh_view [] (by decide) pre0 (H' := []) (d' := .agg [I (A.max a c), I (A.max b d)]) trivial rfl (gh_done (by rw [e1, e2]; exact hq))

theorem inF (lo hi n : Int) (Q) (hq : Q (RA.ret (.v (.bool (decide (lo ≤ n ∧ n ≤ hi))))) []) : CallA Tryd.prog 62 [.agg [I lo, I hi], I n] [] Q := by
  obtain ⟨A, hA⟩ : ∃ A, A = ar := ⟨_, rfl⟩
  refine callA_start tokT hA Tryd.func62 rfl rfl rfl rfl rfl fun S hS => ?_
  cbv
  split
  · rename_i h; cbv
    have h' : lo ≤ n := by subst hA; simpa [ar, cmpI] using h
    have e : ar.cmp .leq n hi = decide (lo ≤ n ∧ n ≤ hi) := by simp [ar, cmpI, h']
    subst hA
    rw [← e] at hq
    exact gh_view [] (by decide) pre0 (H' := []) (d' := .v (.bool (ar.cmp .leq n hi))) trivial rfl (gh_done hq)
  · rename_i h; cbv
    have h' : ¬ lo ≤ n := by subst hA; simpa [ar, cmpI] using h
    have e : decide (lo ≤ n ∧ n ≤ hi) = false := by simp [h']
    rw [e] at hq
    exact gh_view [] (by decide) pre0 (H' := []) (d' := .v (.bool false)) trivial rfl (gh_done hq)

/-- A side: its hour of a range, and how it sets one. -/
def sel (sd : Bool) (lo hi : Int) : Int := match sd with | false => lo | true => hi
structure SideOk (f g : FuncId) (sd : Bool) : Prop where
  of : ∀ (lo hi : Int) (Q), Q (RA.ret (I (sel sd lo hi))) [] → CallA Tryd.prog f [.agg [I lo, I hi]] [] Q
  set2 : ∀ (i : Nat) (n lo hi : Int) (es es' : List D) (Q), es[i]? = some (.agg [I lo, I hi]) → es' = es.set i (match sd with | false => .agg [I n, I hi] | true => .agg [I lo, I n]) → (∀ d, Q (RA.ret d) [.els 2 es']) → CallA Tryd.prog g [.p 0 2 i 0, I n] [.els 2 es] Q
  setB : ∀ (i : Nat) (n : Int) (t k b bl bh el eh : Int) (es es' : List D) (Q), es[i]? = some (.agg [I t, I k, I b, I bl, I bh, I el, I eh]) → es' = es.set i (match sd with | false => .agg [I t, I k, I b, I n, I bh, I el, I eh] | true => .agg [I t, I k, I b, I bl, I n, I el, I eh]) → (∀ d, Q (RA.ret d) [.els 7 es']) → CallA Tryd.prog g [.p 0 7 i 3, I n] [.els 7 es] Q
  setE : ∀ (i : Nat) (n : Int) (t k b bl bh el eh : Int) (es es' : List D) (Q), es[i]? = some (.agg [I t, I k, I b, I bl, I bh, I el, I eh]) → es' = es.set i (match sd with | false => .agg [I t, I k, I b, I bl, I bh, I n, I eh] | true => .agg [I t, I k, I b, I bl, I bh, I el, I n]) → (∀ d, Q (RA.ret d) [.els 7 es']) → CallA Tryd.prog g [.p 0 7 i 5, I n] [.els 7 es] Q

theorem side0 : SideOk 114 115 false := by
  refine ⟨fun lo hi Q hq => ?_, fun i n lo hi es es' Q he h' hq => ?_, fun i n t k b bl bh el eh es es' Q he h' hq => ?_, fun i n t k b bl bh el eh es es' Q he h' hq => ?_⟩
  · obtain ⟨A, hA⟩ : ∃ A, A = ar := ⟨_, rfl⟩
    refine callA_start tokT hA Tryd.func114 rfl rfl rfl rfl rfl fun S hS => ?_
    cbv
    exact gh_view [] (by decide) pre0 (H' := []) (d' := I lo) trivial rfl (gh_done hq)
  all_goals
    obtain ⟨A, hA⟩ : ∃ A, A = ar := ⟨_, rfl⟩
    refine callA_start tokT hA Tryd.func115 rfl rfl rfl rfl rfl fun S hS => ?_
    cbv
    refine ⟨_, by subst hA; exact he, ?_⟩
    cbv
    subst hA
    subst h'
    exact gh_done (hq _)

theorem side1 : SideOk 116 117 true := by
  refine ⟨fun lo hi Q hq => ?_, fun i n lo hi es es' Q he h' hq => ?_, fun i n t k b bl bh el eh es es' Q he h' hq => ?_, fun i n t k b bl bh el eh es es' Q he h' hq => ?_⟩
  · obtain ⟨A, hA⟩ : ∃ A, A = ar := ⟨_, rfl⟩
    refine callA_start tokT hA Tryd.func116 rfl rfl rfl rfl rfl fun S hS => ?_
    cbv
    exact gh_view [] (by decide) pre0 (H' := []) (d' := I hi) trivial rfl (gh_done hq)
  all_goals
    obtain ⟨A, hA⟩ : ∃ A, A = ar := ⟨_, rfl⟩
    refine callA_start tokT hA Tryd.func117 rfl rfl rfl rfl rfl fun S hS => ?_
    cbv
    refine ⟨_, by subst hA; exact he, ?_⟩
    cbv
    subst hA
    subst h'
    exact gh_done (hq _)

theorem sides (Q) (hq : Q (RA.ret (.sl 2 [.agg [.fn 114 [], .fn 115 []], .agg [.fn 116 [], .fn 117 []]])) []) : CallA Tryd.prog 90 [] [] Q := by
  obtain ⟨A, hA⟩ : ∃ A, A = ar := ⟨_, rfl⟩
  refine callA_start tokT hA Tryd.func90 rfl rfl rfl rfl rfl fun S hS => ?_
  cbv
  subst hA
  refine gh_frz [0] ?_
  simp only [fzG, fzH, nmem, nthB]
  exact ⟨rfl, gh_view [] (by decide) pre0 (H' := []) (d' := .sl 2 [.agg [.fn 114 [], .fn 115 []], .agg [.fn 116 [], .fn 117 []]]) trivial rfl (gh_done hq)⟩
end Go.Proofs.YtmloogdalecilaaDoor

/-! D7 -/
namespace Go.Proofs.YtmloogdalecilaaDoor
open Go Go.Abs Go.Proofs

/-- When a work is done: order, work, bench, begin and end in the best case and in the worst one. -/
structure Sl where
  t : Int
  k : Int
  b : Int
  bl : Int
  bh : Int
  el : Int
  eh : Int
  deriving DecidableEq

def slotD (x : Sl) : D := .agg [I x.t, I x.k, I x.b, I x.bl, I x.bh, I x.el, I x.eh]

def lastS (l : List Sl) : Int × Int := l.foldl (fun a s => (max a.1 s.el, max a.2 s.eh)) (0, 0)

theorem maxI {A : Ar} (hA : A = ar) (x y : Int) : A.max x y = max x y := by subst hA; show (if _ then _ else _) = _; rw [Int.max_def]; split <;> split <;> omega
theorem minI {A : Ar} (hA : A = ar) (x y : Int) : A.min x y = min x y := by subst hA; show (if _ then _ else _) = _; rw [Int.min_def]; split <;> split <;> omega

/-- bench.last. -/
theorem bLast (l : List Sl) (L : List D) (hL : L = l.map slotD) (hl : l.length ≤ 1000) (Q) (hq : Q (RA.ret (.agg [I (lastS l).1, I (lastS l).2])) []) : CallA Tryd.prog 78 [.sl 7 L] [] Q := by
  obtain ⟨A, hA⟩ : ∃ A, A = ar := ⟨_, rfl⟩
  have hlen : L.length = l.length := by rw [hL]; simp
  refine callA_start tokT hA Tryd.func78 rfl rfl rfl rfl rfl fun S hS => ?_
  cbv
  refine at_code hS ?_
  refine wpa_loopG (α := Nat × Int × Int × Int) (fun p => { env := [(2, .b 0 0), (3, .b 1 0), (6, .sl 7 L), (7, I (A.oi (A.len L))), (8, I p.2.1)], H := [.box (.agg [I 0, I 0]), .box (.agg [I p.2.2.1, I p.2.2.2])], nt := 27, dfs := [] })
    (fun p => l.length - p.1) (fun p => p.1 ≤ l.length ∧ p.2.1 = (p.1 : Int) ∧ (p.2.2.1, p.2.2.2) = lastS (l.take p.1)) (0, 0, 0, 0) ⟨Nat.zero_le _, rfl, rfl⟩ ?_ ?_
  · exact gs_to [0, 1] ⟨by decide, pre0, ⟨rfl, rfl, trivial⟩, ⟨rfl, rfl, rfl, rfl, rfl, trivial⟩, rfl, rfl⟩
  rintro ⟨k, i, a, b⟩ ⟨p1, p2, p3⟩
  dsimp only at p1 p2 p3
  refine wp_go tokT hA hS ?_
  cbv
  split
  · rename_i c
    cbv
    replace p2 : i = (k : Int) := p2
    have hk : k < l.length := by subst hA; simp [ar, cmpI] at c; omega
    obtain ⟨x, hx⟩ : ∃ x, x = l[k] := ⟨_, rfl⟩
    refine ⟨by subst hA; show 0 ≤ i ∧ i < (L.length : Nat); omega, ⟨slotD x, by subst hA; simp [ar, hL, p2, hk, hx], ?_⟩⟩
    cbv
    replace p2 : i = (k : Int) := p2
    refine ⟨by subst hA; exact fits64 (n := i + 1) (by omega), ?_⟩
    have m1 := maxI hA a x.el
    have m2 := maxI hA b x.eh
    subst hA
    refine gs_loop (k + 1, i + 1, max a x.el, max b x.eh) [0, 1] ?_ ?_ ?_
    · refine ⟨hk, by simp; omega, ?_⟩
      rw [List.take_add_one, List.getElem?_eq_getElem hk, lastS, List.foldl_append, ← lastS, ← p3, ← hx]; rfl
    · simp only; omega
    · exact ⟨by decide, pre0, ⟨rfl, by rw [← m1, ← m2]; rfl, trivial⟩, ⟨rfl, rfl, rfl, rfl, rfl, trivial⟩, rfl, rfl⟩
  · rename_i c
    cbv
    replace p2 : i = (k : Int) := p2
    have hk : k = l.length := by subst hA; simp [ar, cmpI] at c; omega
    rw [hk, List.take_length] at p3
    refine gs_done ?_
    cbv
    exact gh_view [] (by decide) pre0 (H' := []) (d' := .agg [I a, I b]) trivial rfl (gh_done (by rw [← p3] at hq; exact hq))

/-- compare. -/
theorem bCompare (x y : Sl) (Q) (hb : -100000 ≤ x.k ∧ x.k ≤ 100000 ∧ -100000 ≤ y.k ∧ y.k ≤ 100000) (hq : Q (RA.ret (I (x.k - y.k))) []) : CallA Tryd.prog 113 [slotD x, slotD y] [] Q := by
  obtain ⟨A, hA⟩ : ∃ A, A = ar := ⟨_, rfl⟩
  refine callA_start tokT hA Tryd.func113 rfl rfl rfl rfl rfl fun S hS => ?_
  cbv
  subst hA
  exact ⟨fits64 (n := x.k - y.k) (by omega), gh_view [] (by decide) pre0 (H' := []) (d' := I (x.k - y.k)) trivial rfl (gh_done hq)⟩

/-! ### The run of a plan, one side. -/
structure Ck where
  bn : List Int
  tk : List Int
  dn : List Nat

instance : Inhabited Wk := ⟨⟨0, 0, 0⟩⟩
instance : Inhabited Tk := ⟨⟨0, 0, []⟩⟩

/-- One work of a plan: its number, its bench, when it begins and ends. -/
structure Wr where
  k : Nat
  b : Int
  bg : Int
  en : Int

def workAt (s : Sh) (i k : Nat) : Wk := (s.tasks.getD i default).works.getD k default

def stepC (sd : Bool) (s : Sh) (c : Ck) (i : Nat) (more : Int) : Wr :=
  let k := c.dn.getD i 0
  let w := workAt s i k
  let bg := max (c.tk.getD i 0) (c.bn.getD w.b.toNat 0)
  ⟨k, w.b, bg, bg + sel sd w.lo w.hi + more⟩

def nextC (c : Ck) (i : Nat) (r : Wr) : Ck := ⟨c.bn.set r.b.toNat r.en, c.tk.set i r.en, c.dn.set i (r.k + 1)⟩

def simC (sd : Bool) (s : Sh) (more : Nat → Int) : Ck → Nat → List Nat → List Wr
  | _, _, [] => []
  | c, a, i :: p => let r := stepC sd s c i (more a); r :: simC sd s more (nextC c i r) (a + 1) p

def pad4 (l : List Int) : List Int := l ++ List.replicate (4 - l.length) 0
def initC (s : Sh) : Ck := ⟨[0, 0, 0], pad4 (s.tasks.map (·.ready)), [0, 0, 0, 0]⟩

/-- The clock ahead of the work at a place. -/
def ckAt (sd : Bool) (s : Sh) (more : Nat → Int) : Ck → Nat → List Nat → Nat → Ck
  | c, _, _, 0 => c
  | c, _, [], _ => c
  | c, a, i :: p, n + 1 => ckAt sd s more (nextC c i (stepC sd s c i (more a))) (a + 1) p n

theorem simC_length (sd s more) : ∀ (p : List Nat) c a, (simC sd s more c a p).length = p.length
  | [], _, _ => rfl
  | i :: p, c, a => by simp [simC, simC_length sd s more p]

theorem simC_get (sd s more) : ∀ (p : List Nat) c a n i, p[n]? = some i → (simC sd s more c a p)[n]? = some (stepC sd s (ckAt sd s more c a p n) i (more (a + n)))
  | [], _, _, _, _, h => by simp at h
  | j :: p, c, a, 0, i, h => by simp at h; subst h; simp [simC, ckAt]
  | j :: p, c, a, n + 1, i, h => by
    have := simC_get sd s more p (nextC c j (stepC sd s c j (more a))) (a + 1) n i (by simpa using h)
    simp only [simC, List.getElem?_cons_succ, ckAt, this]
    rw [show a + 1 + n = a + (n + 1) by omega]

theorem ckAt_succ (sd s more) : ∀ (p : List Nat) c a n i, p[n]? = some i → ckAt sd s more c a p (n + 1) = nextC (ckAt sd s more c a p n) i (stepC sd s (ckAt sd s more c a p n) i (more (a + n)))
  | [], _, _, _, _, h => by simp at h
  | j :: p, c, a, 0, i, h => by simp at h; subst h; simp [ckAt]
  | j :: p, c, a, n + 1, i, h => by
    have := ckAt_succ sd s more p (nextC c j (stepC sd s c j (more a))) (a + 1) n i (by simpa using h)
    rw [ckAt, this, show a + 1 + n = a + (n + 1) by omega]
    simp only [ckAt]

/-- What of a shop is needed for a run. -/
structure Val (s : Sh) : Prop where
  b0 : 1 ≤ s.benches
  b1 : s.benches ≤ 3
  len : s.tasks.length ≤ 4
  rd : ∀ t ∈ s.tasks, 0 ≤ t.ready ∧ t.ready ≤ 200
  du : ∀ t ∈ s.tasks, 0 ≤ t.due ∧ t.due ≤ 200
  ne : ∀ t ∈ s.tasks, t.works ≠ []
  wk : ∀ t ∈ s.tasks, ∀ w ∈ t.works, 0 ≤ w.b ∧ w.b < s.benches ∧ 1 ≤ w.lo ∧ w.lo ≤ w.hi ∧ w.hi ≤ 20
  sum : nWorks s.tasks ≤ 8

/-- A plan that does not do more than there is. -/
structure PlanLe (s : Sh) (p : List Nat) : Prop where
  lt : ∀ i ∈ p, i < s.tasks.length
  cnt : ∀ i, i < s.tasks.length → p.count i ≤ (s.tasks.getD i default).works.length

/-- What the clock keeps to. -/
structure CkOk (s : Sh) (M : Int) (c : Ck) (p : List Nat) : Prop where
  bn : c.bn.length = 3
  tk : c.tk.length = 4
  dn : c.dn.length = 4
  dc : ∀ i, i < 4 → c.dn.getD i 0 = p.count i
  b0 : ∀ x ∈ c.bn, 0 ≤ x ∧ x ≤ 200 + p.length * (20 + M)
  t0 : ∀ x ∈ c.tk, 0 ≤ x ∧ x ≤ 200 + p.length * (20 + M)
end Go.Proofs.YtmloogdalecilaaDoor

/-! D8 -/
namespace Go.Proofs.YtmloogdalecilaaDoor
open Go Go.Abs Go.Proofs

/-- By side. -/
def pk (sd : Bool) (x y : Int) : Int := match sd with | false => x | true => y

theorem getD_set {α : Type} (l : List α) (i j : Nat) (x d : α) (h : i < l.length) : (l.set i x).getD j d = if j = i then x else l.getD j d := by
  simp only [List.getD_eq_getElem?_getD, List.getElem?_set]
  by_cases e : i = j
  · subst e; simp [h]
  · rw [if_neg e, if_neg (fun h => e h.symm)]

theorem getD_mem {α : Type} {l : List α} {i : Nat} {d : α} (h : i < l.length) : l.getD i d ∈ l := by
  simp only [List.getD_eq_getElem?_getD, List.getElem?_eq_getElem h, Option.getD_some]; exact List.getElem_mem h

theorem take_succ_count {p : List Nat} {n i : Nat} (h : p[n]? = some i) (j : Nat) : (p.take (n + 1)).count j = (p.take n).count j + if j = i then 1 else 0 := by
  rw [List.take_add_one, h, List.count_append]
  by_cases e : j = i
  · subst e; simp
  · rw [if_neg e, Nat.add_left_cancel_iff]; exact List.count_eq_zero.2 (by simpa using e)

section
variable {s : Sh} {p : List Nat} {sd : Bool} {more : Nat → Int} {M : Int}

theorem work_ok (hv : Val s) {i k : Nat} (hi : i < s.tasks.length) (hk : k < (s.tasks.getD i default).works.length) :
    0 ≤ (workAt s i k).b ∧ (workAt s i k).b < s.benches ∧ 1 ≤ (workAt s i k).lo ∧ (workAt s i k).lo ≤ (workAt s i k).hi ∧ (workAt s i k).hi ≤ 20 :=
  hv.wk _ (getD_mem hi) _ (getD_mem hk)

theorem init_ok (hv : Val s) (hM : 0 ≤ M) : CkOk s M (initC s) [] := by
  refine ⟨rfl, ?_, rfl, fun i hi => ?_, fun x hx => ?_, fun x hx => ?_⟩
  · have := hv.len; simp [initC, pad4]; omega
  · match i, hi with
    | 0, _ => rfl
    | 1, _ => rfl
    | 2, _ => rfl
    | 3, _ => rfl
  · simp [initC] at hx; subst hx; simp
  · simp only [initC, pad4, List.mem_append, List.mem_map, List.mem_replicate] at hx
    rcases hx with ⟨t, ht, rfl⟩ | ⟨-, rfl⟩
    · have := hv.rd t ht; simp; omega
    · simp

theorem step_ok (hv : Val s) (hp : PlanLe s p) (hM : 0 ≤ M) (hm : ∀ a, 0 ≤ more a ∧ more a ≤ M) {n i : Nat} (h : p[n]? = some i) {c : Ck} (hc : CkOk s M c (p.take n)) (a : Nat) :
    i < s.tasks.length ∧ (stepC sd s c i (more a)).k = (p.take n).count i ∧ (p.take n).count i < (s.tasks.getD i default).works.length ∧ 0 ≤ (stepC sd s c i (more a)).bg ∧ (stepC sd s c i (more a)).bg ≤ 200 + n * (20 + M) ∧
      CkOk s M (nextC c i (stepC sd s c i (more a))) (p.take (n + 1)) := by
  have hn := (List.getElem?_eq_some_iff.1 h).1
  have hi : i < s.tasks.length := hp.lt i (List.mem_of_getElem? h)
  have hlen := hv.len
  have hk : c.dn.getD i 0 = (p.take n).count i := hc.dc i (by omega)
  have hlt : (p.take n).count i < (s.tasks.getD i default).works.length := by
    have h1 := take_succ_count h i
    rw [if_pos rfl] at h1
    have h2 : (p.take (n + 1)).count i ≤ p.count i := (List.take_sublist _ _).count_le i
    have := hp.cnt i hi
    omega
  obtain ⟨w1, w2, w3, w4, w5⟩ := work_ok hv hi hlt
  have hb := hv.b1
  have htl : (p.take n).length = n := by simp; omega
  have htl2 : (p.take (n + 1)).length = n + 1 := by simp; omega
  have e1 := hc.t0 (c.tk.getD i 0) (getD_mem (by rw [hc.tk]; omega))
  have e2 := hc.b0 (c.bn.getD (workAt s i ((p.take n).count i)).b.toNat 0) (getD_mem (by rw [hc.bn]; omega))
  rw [htl] at e1 e2
  have hM20 : (0 : Int) ≤ n * (20 + M) := Int.mul_nonneg (by omega) (by omega)
  have hbg : (stepC sd s c i (more a)).bg = max (c.tk.getD i 0) (c.bn.getD (workAt s i ((p.take n).count i)).b.toNat 0) := by simp only [stepC, hk]
  have b1 : 0 ≤ (stepC sd s c i (more a)).bg := by rw [hbg]; omega
  have b2 : (stepC sd s c i (more a)).bg ≤ 200 + n * (20 + M) := by rw [hbg]; omega
  have hen : (stepC sd s c i (more a)).en = (stepC sd s c i (more a)).bg + sel sd (workAt s i ((p.take n).count i)).lo (workAt s i ((p.take n).count i)).hi + more a := by simp only [stepC, hk]
  have hsel : 0 ≤ sel sd (workAt s i ((p.take n).count i)).lo (workAt s i ((p.take n).count i)).hi ∧ sel sd (workAt s i ((p.take n).count i)).lo (workAt s i ((p.take n).count i)).hi ≤ 20 := by cases sd <;> simp only [sel] <;> omega
  have hma := hm a
  have hnm : ((n + 1 : Nat) : Int) * (20 + M) = n * (20 + M) + (20 + M) := by rw [Int.natCast_add, Int.add_mul]; simp
  have hen2 : 0 ≤ (stepC sd s c i (more a)).en ∧ (stepC sd s c i (more a)).en ≤ 200 + ((n + 1 : Nat) : Int) * (20 + M) := by rw [hen, hnm]; omega
  refine ⟨hi, by simp only [stepC, hk], hlt, b1, b2, by simp [nextC, hc.bn], by simp [nextC, hc.tk], by simp [nextC, hc.dn], fun j hj => ?_, fun x hx => ?_, fun x hx => ?_⟩
  · simp only [nextC]
    rw [getD_set _ _ _ _ _ (by rw [hc.dn]; omega), take_succ_count h j]
    split
    · rename_i e; subst e; simp only [stepC, hk]
    · rw [hc.dc j hj]; rfl
  · rw [htl2]
    rcases List.mem_or_eq_of_mem_set hx with hx | rfl
    · have := hc.b0 x hx; rw [htl] at this; omega
    · exact hen2
  · rw [htl2]
    rcases List.mem_or_eq_of_mem_set hx with hx | rfl
    · have := hc.t0 x hx; rw [htl] at this; omega
    · exact hen2

theorem ck_ok (hv : Val s) (hp : PlanLe s p) (hM : 0 ≤ M) (hm : ∀ a, 0 ≤ more a ∧ more a ≤ M) : ∀ n, n ≤ p.length → CkOk s M (ckAt sd s more (initC s) 0 p n) (p.take n)
  | 0, _ => by simpa [ckAt] using init_ok hv hM
  | n + 1, h => by
    have hn : p[n]? = some p[n] := List.getElem?_eq_getElem (by omega)
    have := step_ok (sd := sd) hv hp hM hm hn (ck_ok hv hp hM hm n (by omega)) (0 + n)
    rw [ckAt_succ sd s more p _ _ _ _ hn]
    exact this.2.2.2.2.2
end

/-- The slots of a plan. -/
def runS (s : Sh) (more : Nat → Int) (p : List Nat) : List Sl :=
  (List.range p.length).map fun n =>
    let i := p.getD n 0
    let a := stepC false s (ckAt false s more (initC s) 0 p n) i (more n)
    let b := stepC true s (ckAt true s more (initC s) 0 p n) i (more n)
    ⟨i, a.k, a.b, a.bg, b.bg, a.en, b.en⟩

/-- A slot while side sd is being reckoned: those before place k are. -/
def slAt (s : Sh) (more : Nat → Int) (p : List Nat) (sd : Bool) (k n : Nat) : Sl :=
  let i := p.getD n 0
  let a := stepC false s (ckAt false s more (initC s) 0 p n) i (more n)
  let b := stepC true s (ckAt true s more (initC s) 0 p n) i (more n)
  match sd, decide (n < k) with
  | false, false => ⟨0, 0, 0, 0, 0, 0, 0⟩
  | false, true => ⟨i, a.k, a.b, a.bg, 0, a.en, 0⟩
  | true, false => ⟨i, a.k, a.b, a.bg, 0, a.en, 0⟩
  | true, true => ⟨i, a.k, a.b, a.bg, b.bg, a.en, b.en⟩

/-- A clock's cells. -/
def ckD (c : Ck) : List D := (c.bn ++ c.tk ++ c.dn.map (fun n : Nat => (n : Int))).map I

theorem arr_set {L L' : List D} {a b : Nat} {x : D} (e : a = b) (h : L.set b x = L') (ρ : Nat → Nat) (hf : frL L' = true) : some (Blk.box (D.arr (L.set a x))) = some (renB ρ (Blk.box (D.arr L'))) := by
  subst e; rw [h]; exact arr_ren ρ hf

theorem ckD_fr (c : Ck) : frL (ckD c) = true := frL_mem.2 fun d hd => by
  simp only [ckD, List.mem_map] at hd
  obtain ⟨x, -, rfl⟩ := hd
  rfl

theorem ckD_dn {c : Ck} (h1 : c.bn.length = 3) (h2 : c.tk.length = 4) {i : Nat} (h : i < c.dn.length) : (ckD c)[7 + i]? = some (I (c.dn.getD i 0 : Nat)) := by
  obtain ⟨bn, tk, dn⟩ := c
  match bn, tk, h1, h2 with
  | [b0, b1, b2], [t0, t1, t2, t3], _, _ =>
    simp only [ckD, List.cons_append, List.nil_append, List.map_cons]
    rw [Nat.add_comm]
    simp only [List.getElem?_cons_succ]
    simp only at h
    simp [List.getElem?_map, List.getElem?_eq_getElem h]

theorem ckD_tk {c : Ck} (h1 : c.bn.length = 3) {i : Nat} (h : i < c.tk.length) : (ckD c)[3 + i]? = some (I (c.tk.getD i 0)) := by
  obtain ⟨bn, tk, dn⟩ := c
  match bn, h1 with
  | [b0, b1, b2], _ =>
    simp only [ckD, List.cons_append, List.nil_append, List.map_cons]
    rw [Nat.add_comm]
    simp only [List.getElem?_cons_succ]
    simp only at h
    simp [List.getElem?_map, List.getElem?_append, h]

theorem ckD_bn {c : Ck} {i : Nat} (h : i < c.bn.length) : (ckD c)[i]? = some (I (c.bn.getD i 0)) := by
  obtain ⟨bn, tk, dn⟩ := c
  simp only [ckD]
  simp only at h
  simp only [List.append_assoc, List.getElem?_map, List.getElem?_append, h, if_true, List.getElem?_eq_getElem h, Option.map_some, List.getD_eq_getElem?_getD, Option.getD_some]

theorem ckD_next {c : Ck} (h1 : c.bn.length = 3) (h2 : c.tk.length = 4) (h3 : c.dn.length = 4) {i b : Nat} (hi : i < 4) (hb : b < 3) (x y : Int) (k : Nat) :
    (((ckD c).set (3 + i) (I x)).set b (I y)).set (7 + i) (I (k : Nat)) = ckD ⟨c.bn.set b y, c.tk.set i x, c.dn.set i k⟩ := by
  obtain ⟨bn, tk, dn⟩ := c
  match bn, tk, dn, h1, h2, h3 with
  | [b0, b1, b2], [t0, t1, t2, t3], [d0, d1, d2, d3], _, _, _ =>
    match i, hi, b, hb with
    | 0, _, 0, _ => rfl
    | 1, _, 0, _ => rfl
    | 2, _, 0, _ => rfl
    | 3, _, 0, _ => rfl
    | 0, _, 1, _ => rfl
    | 1, _, 1, _ => rfl
    | 2, _, 1, _ => rfl
    | 3, _, 1, _ => rfl
    | 0, _, 2, _ => rfl
    | 1, _, 2, _ => rfl
    | 2, _, 2, _ => rfl
    | 3, _, 2, _ => rfl

section
variable {s : Sh} {p : List Nat} {sd : Bool} {more : Nat → Int} {M : Int}

theorem sl_step (hv : Val s) (hp : PlanLe s p) (hM : 0 ≤ M) (hm : ∀ a, 0 ≤ more a ∧ more a ≤ M) {n i kN : Nat} (h : p[n]? = some i) (hk : kN = (p.take n).count i) {w : Wk} (hw : w = workAt s i kN) {o : Sl} (ho : o = slAt s more p sd n n)
    {r : Wr} (hr : r = stepC sd s (ckAt sd s more (initC s) 0 p n) i (more n)) :
    slAt s more p sd (n + 1) n = ⟨i, kN, w.b, pk sd r.bg o.bl, pk sd o.bh r.bg, pk sd r.en o.el, pk sd o.eh r.en⟩ := by
  have hn := (List.getElem?_eq_some_iff.1 h).1
  have h1 := (step_ok (sd := false) hv hp hM hm h (ck_ok (sd := false) hv hp hM hm n (by omega)) n).2.1
  have h2 : (stepC false s (ckAt false s more (initC s) 0 p n) i (more n)).b = w.b := by
    have e : (ckAt false s more (initC s) 0 p n).dn.getD i 0 = (p.take n).count i := h1
    simp only [stepC, e, ← hk, ← hw]
  have hpd : p.getD n 0 = i := by rw [List.getD_eq_getElem?_getD, h]; rfl
  subst hk
  have d1 : decide (n < n + 1) = true := by simp
  have d2 : decide (n < n) = false := by simp
  cases sd <;> simp only [slAt, d1, d2, ho, hpd, h1, h2, hr, pk]

theorem sl_other {n m : Nat} (h : m ≠ n) : slAt s more p sd (n + 1) m = slAt s more p sd n m := by
  have : decide (m < n + 1) = decide (m < n) := by rw [decide_eq_decide]; omega
  simp only [slAt, this]

end

theorem SideOk.sB {f g : FuncId} {sd : Bool} (h : SideOk f g sd) (i : Nat) (n : Int) (t k b bl bh el eh bl1 bh1 : Int) (es es' : List D) (Q) (he : es[i]? = some (.agg [I t, I k, I b, I bl, I bh, I el, I eh])) (h1 : bl1 = pk sd n bl) (h2 : bh1 = pk sd bh n)
    (h' : es' = es.set i (.agg [I t, I k, I b, I bl1, I bh1, I el, I eh])) (hq : ∀ d, Q (RA.ret d) [.els 7 es']) : CallA Tryd.prog g [.p 0 7 i 3, I n] [.els 7 es] Q :=
  h.setB i n t k b bl bh el eh es es' Q he (by subst h1 h2 h'; cases sd <;> rfl) hq

theorem SideOk.sE {f g : FuncId} {sd : Bool} (h : SideOk f g sd) (i : Nat) (n : Int) (t k b bl bh el eh el1 eh1 : Int) (es es' : List D) (Q) (he : es[i]? = some (.agg [I t, I k, I b, I bl, I bh, I el, I eh])) (h1 : el1 = pk sd n el) (h2 : eh1 = pk sd eh n)
    (h' : es' = es.set i (.agg [I t, I k, I b, I bl, I bh, I el1, I eh1])) (hq : ∀ d, Q (RA.ret d) [.els 7 es']) : CallA Tryd.prog g [.p 0 7 i 5, I n] [.els 7 es] Q :=
  h.setE i n t k b bl bh el eh es es' Q he (by subst h1 h2 h'; cases sd <;> rfl) hq

theorem cl_init (l : List Int) (x : Int) (h : l.length < 4) : (ckD ⟨[0, 0, 0], pad4 l, [0, 0, 0, 0]⟩).set (3 + l.length) (I x) = ckD ⟨[0, 0, 0], pad4 (l ++ [x]), [0, 0, 0, 0]⟩ := by
  match l, h with
  | [], _ => rfl
  | [_], _ => rfl
  | [_, _], _ => rfl
  | [_, _, _], _ => rfl


/-- What is known at a step of a plan. -/
structure SF (s : Sh) (p : List Nat) (sd : Bool) (mo : Nat → Int) (n pi kN wb : Nat) (t : Tk) (w : Wk) (tk bn sv : Int) : Prop where
  pn : p[n]? = some pi
  p4 : pi < 4
  pt : pi < s.tasks.length
  tt : s.tasks[pi]? = some t
  kw : kN < t.works.length
  kl : kN ≤ n
  ww : t.works[kN]? = some w
  dn : (ckD (ckAt sd s mo (initC s) 0 p n))[7 + pi]? = some (I (kN : Nat))
  tkv : (ckD (ckAt sd s mo (initC s) 0 p n))[3 + pi]? = some (I tk)
  wbi : IsI w.b wb
  wb3 : wb < 3
  bnv : (ckD (ckAt sd s mo (initC s) 0 p n))[0 + wb]? = some (I bn)
  tkb : Btw 0 tk 100000
  bnb : Btw 0 bn 100000
  svb : Btw 0 sv 20
  sve : sv = sel sd w.lo w.hi
  nx : ∀ y, y = max tk bn + sv + mo n → ckD (ckAt sd s mo (initC s) 0 p (n + 1)) = (((ckD (ckAt sd s mo (initC s) 0 p n)).set (3 + pi) (I y)).set (0 + wb) (I y)).set (7 + pi) (I ((kN + 1 : Nat) : Int))
  sl : ∀ x y o, x = max tk bn → y = x + sv + mo n → o = slAt s mo p sd n n → slAt s mo p sd (n + 1) n = ⟨pi, kN, w.b, pk sd x o.bl, pk sd o.bh x, pk sd y o.el, pk sd o.eh y⟩

theorem step_facts {s : Sh} {p : List Nat} {sd : Bool} {mo : Nat → Int} {M : Int} (hv : Val s) (hp : PlanLe s p) (hM : 0 ≤ M ∧ M ≤ 1000) (hm : ∀ a, 0 ≤ mo a ∧ mo a ≤ M) (hpl : p.length ≤ 20) {n : Nat} (hn : n < p.length) :
    ∃ pi kN wb t w tk bn sv, SF s p sd mo n pi kN wb t w tk bn sv := by
  obtain ⟨pi, hpi⟩ : ∃ pi, pi = p[n] := ⟨_, rfl⟩
  have hpn : p[n]? = some pi := by rw [hpi]; exact List.getElem?_eq_getElem hn
  have hc := ck_ok (sd := sd) (more := mo) (M := M) hv hp hM.1 hm n (by omega)
  obtain ⟨hi, hk1, hk2, hb0, hb1, hcn⟩ := step_ok (sd := sd) (more := mo) (M := M) hv hp hM.1 hm hpn hc n
  obtain ⟨c0, hc0⟩ : ∃ c0, c0 = ckAt sd s mo (initC s) 0 p n := ⟨_, rfl⟩
  have hlen4 := hv.len
  have hb3 := hv.b1
  obtain ⟨kN, hkN⟩ : ∃ x : Nat, x = (p.take n).count pi := ⟨_, rfl⟩
  rw [← hkN] at hk1 hk2
  have hd0 : c0.dn.getD pi 0 = kN := by rw [hc0]; exact (hc.dc pi (by omega)).trans hkN.symm
  obtain ⟨t, ht⟩ : ∃ t, t = s.tasks.getD pi default := ⟨_, rfl⟩
  have htt : s.tasks[pi]? = some t := by rw [ht, List.getD_eq_getElem?_getD, List.getElem?_eq_getElem hi]; rfl
  rw [← ht] at hk2
  obtain ⟨w, hw⟩ : ∃ w, w = workAt s pi kN := ⟨_, rfl⟩
  have hww : t.works[kN]? = some w := by rw [hw, workAt, ← ht, List.getD_eq_getElem?_getD, List.getElem?_eq_getElem hk2]; rfl
  obtain ⟨w1, w2, w3, w4, w5⟩ := work_ok hv hi (by rw [← ht]; exact hk2)
  rw [← hw] at w1 w2 w3 w4 w5
  rw [← hc0] at hc
  have hnb : (n : Int) * (20 + M) ≤ 20 * (20 + M) := Int.mul_le_mul_of_nonneg_right (by omega) (by omega)
  have tl : (p.take n).length = n := by simp; omega
  have e1 := hc.t0 (c0.tk.getD pi 0) (getD_mem (by rw [hc.tk]; omega))
  have e2 := hc.b0 (c0.bn.getD w.b.toNat 0) (getD_mem (by rw [hc.bn]; omega))
  rw [tl] at e1 e2
  have hr : stepC sd s c0 pi (mo n) = ⟨kN, w.b, max (c0.tk.getD pi 0) (c0.bn.getD w.b.toNat 0), max (c0.tk.getD pi 0) (c0.bn.getD w.b.toNat 0) + sel sd w.lo w.hi + mo n⟩ := by
    simp only [stepC, hd0, ← hw]
  refine ⟨pi, kN, w.b.toNat, t, w, c0.tk.getD pi 0, c0.bn.getD w.b.toNat 0, sel sd w.lo w.hi, hpn, by omega, hi, htt, hk2, hkN ▸ (Nat.le_trans List.count_le_length (by simp; omega)), hww, ?_, ?_, ⟨by omega⟩, by omega, ?_, ⟨by omega, by omega⟩, ⟨by omega, by omega⟩, ?_, rfl, fun y hy => ?_, fun x y o hx hy ho => ?_⟩
  · rw [← hc0, ckD_dn hc.bn hc.tk (by rw [hc.dn]; omega), hd0]
  · rw [← hc0, ckD_tk hc.bn (by rw [hc.tk]; omega)]
  · rw [← hc0, Nat.zero_add, ckD_bn (by rw [hc.bn]; omega)]
  · cases sd <;> simp only [sel] <;> exact ⟨by omega, by omega⟩
  · rw [ckAt_succ sd s mo p _ _ _ _ hpn, ← hc0, Nat.zero_add, Nat.zero_add, ckD_next hc.bn hc.tk hc.dn (by omega) (by omega), nextC, hr, ← hy]
  · have := sl_step (sd := sd) hv hp hM.1 hm hpn hkN hw ho rfl
    rw [this, ← hc0, hr, ← hx, ← hy]

theorem arr_set3 {A : Ar} (hA : A = ar) {L L' : List D} {i j : Int} {a b : Nat} {x y z : D} (ea : IsI i a) (eb : IsI j b) (h : L' = ((L.set (3 + a) x).set (0 + b) y).set (7 + a) z) (ρ : Nat → Nat) (hf : frL L' = true) :
    some (Blk.box (D.arr (A.set (A.set (A.set L (A.addN 3 (A.mulN (A.tn i) 1)) x) (A.addN 0 (A.mulN (A.tn j) 1)) y) (A.addN 7 (A.mulN (A.tn i) 1)) z))) = some (renB ρ (Blk.box (D.arr L'))) := by
  rw [yofs hA 3 ea, yofs hA 0 eb, yofs hA 7 ea, xset hA, xset hA, xset hA, ← h]; exact arr_ren ρ hf


set_option maxRecDepth 20000 in
set_option maxHeartbeats 4000000 in
/-- bench.planned.run, with no hours more. -/
theorem bRun (s : Sh) (hv : Val s) (p : List Nat) (hp : PlanLe s p) (hpl : p.length ≤ 20) (TL PL : List D) (hT : TL = s.tasks.map taskD) (hP : PL = p.map (fun i => I (i : Nat))) (Q)
    (hq : Q (RA.ret (.sl 7 ((runS s (fun _ => 0) p).map slotD))) []) : CallA Tryd.prog 79 [.agg [I s.benches, .sl 3 TL, .sl 1 PL], .v (.map none)] [] Q := by
  obtain ⟨A, hA⟩ : ∃ A, A = ar := ⟨_, rfl⟩
  have hTl : TL.length = s.tasks.length := by rw [hT]; simp
  have hPl : PL.length = p.length := by rw [hP]; simp
  obtain ⟨mo, hmo⟩ : ∃ mo : Nat → Int, mo = fun _ => 0 := ⟨_, rfl⟩
  obtain ⟨M, hM⟩ : ∃ M : Int, 0 ≤ M ∧ M ≤ 1000 := ⟨0, by decide, by decide⟩
  have hm : ∀ a, 0 ≤ mo a ∧ mo a ≤ M := fun a => by rw [hmo]; exact ⟨Int.le_refl _, hM.1⟩
  rw [← hmo] at hq
  have hr0 : 0 ≤ ((PL.length : Nat) : Int) := by omega
  have hr1 : PL.length * 56 ≤ 140737488355328 ∧ PL.length ≤ 4611686018427387904 := by omega
  refine callA_start tokT hA Tryd.func79 rfl rfl rfl rfl rfl fun S hS => ?_
  cbv
  refine ⟨by subst hA; exact hr0, by subst hA; exact hr1, ?_⟩
  refine ops_call hS [] [] [] rfl rfl rfl rfl rfl rfl rfl rfl (by decide) trivial (sides _ ?_)
  refine ops_go tokT hA hS ?_
  cbv
  refine at_code hS ?_
  obtain ⟨SL, hSL⟩ : ∃ SL : List D, SL = [.agg [.fn 114 [], .fn 115 []], .agg [.fn 116 [], .fn 117 []]] := ⟨_, rfl⟩
  have hSl2 : SL.length = 2 := by rw [hSL]; rfl
  obtain ⟨N, hN⟩ : ∃ N, N = p.length := ⟨_, rfl⟩
  obtain ⟨st, hst⟩ : ∃ st : Nat → Nat → Sl, st = fun j n => slAt s mo p (decide (1 ≤ j)) (if 2 ≤ j then N else 0) n := ⟨_, rfl⟩
  have hside : ∀ jn, jn < 2 → ∃ f g sd, SideOk f g sd ∧ SL[jn]? = some (.agg [.fn f [], .fn g []]) ∧ (∀ n, n < N → st jn n = slAt s mo p sd 0 n) ∧ (∀ n, n < N → st (jn + 1) n = slAt s mo p sd N n) := fun jn hj => by
    match jn, hj with
    | 0, _ => exact ⟨114, 115, false, side0, by rw [hSL]; rfl, fun n hn => by rw [hst]; rfl, fun n hn => by rw [hst]; simp [slAt, hn]⟩
    | 1, _ => exact ⟨116, 117, true, side1, by rw [hSL]; rfl, fun n hn => by rw [hst]; rfl, fun n hn => by rw [hst]; rfl⟩
  have hPN : PL.length = N := by omega
  refine wpa_loopG (α := Int × Nat × List D) (fun q => { env := [(1, .v (.map none)), (2, .b 0 0), (5, .o 1 7 N), (22, .sl 2 SL), (23, I 2), (24, I q.1)], H := [.box (.agg [I s.benches, .sl 3 TL, .sl 1 PL]), .els 7 q.2.2], nt := 133, dfs := [] })
    (fun q => 2 - q.2.1) (fun q => q.2.1 ≤ 2 ∧ IsI q.1 q.2.1 ∧ q.2.2.length = N ∧ ∀ n, n < N → q.2.2[n]? = some (slotD (st q.2.1 n))) (0, 0, List.replicate PL.length (slotD ⟨0, 0, 0, 0, 0, 0, 0⟩)) ⟨Nat.zero_le _, ⟨rfl⟩, by simp; omega, fun n hn => ?_⟩ ?_ ?_
  · subst hst
    simp only [List.getElem?_replicate]
    rw [if_pos (by omega)]
    simp [slAt]
  · exact gs_to [0, 1] ⟨by decide, pre0, ⟨rfl, by subst hA; rfl, trivial⟩, ⟨rfl, rfl, by subst hA; rw [← hPN]; rfl, by rw [hSL]; rfl, by subst hA; rfl, rfl, trivial⟩, rfl, rfl⟩
  rintro ⟨j, jn, OL⟩ ⟨q1, q2, q3, q4⟩
  dsimp only at q1 q2 q3 q4
  refine wp_go tokT hA hS ?_
  cbv
  split
  · rename_i c
    have hj : jn < 2 := yltC hA 2 q2 c
    obtain ⟨f, g, sd, hsd, hSLj, hs0, hs1⟩ := hside jn hj
    cbv
    refine ⟨yinbL hA hSl2 q2 hj, ⟨_, yget hA q2 hSLj, ?_⟩⟩
    cbv
    refine at_code hS ?_
    refine wpa_loopG (α := Int × Nat × List D) (fun q => { env := [(1, .v (.map none)), (2, .b 0 0), (5, .o 1 7 N), (7, .b 2 0), (8, .b 3 0), (22, .sl 2 SL), (23, I 2), (24, I j), (30, .sl 3 TL), (31, I (A.oi (A.len TL))), (32, I q.1)], H := [.box (.agg [I s.benches, .sl 3 TL, .sl 1 PL]), .els 7 OL, .box (.agg [.fn f [], .fn g []]), .box (.arr q.2.2)], nt := 133, dfs := [] })
      (fun q => s.tasks.length - q.2.1) (fun q => q.2.1 ≤ s.tasks.length ∧ IsI q.1 q.2.1 ∧ q.2.2 = ckD ⟨[0, 0, 0], pad4 ((s.tasks.take q.2.1).map (·.ready)), [0, 0, 0, 0]⟩) (0, 0, ckD ⟨[0, 0, 0], pad4 [], [0, 0, 0, 0]⟩) ⟨Nat.zero_le _, ⟨rfl⟩, rfl⟩ ?_ ?_
    · refine gs_weakB 3 (.arr (ckD ⟨[0, 0, 0], pad4 [], [0, 0, 0, 0]⟩)) rfl WkL.rfl ?_
      exact gs_to [0, 1, 2, 3] ⟨by decide, pre0, ⟨rfl, rfl, rfl, rfl, trivial⟩, ⟨rfl, rfl, rfl, rfl, rfl, rfl, rfl, rfl, rfl, rfl, rfl, trivial⟩, rfl, rfl⟩
    rintro ⟨i, k, CL⟩ ⟨r1, r2, r3⟩
    dsimp only at r1 r2 r3
    have hlen4 := hv.len
    have hCl : CL.length = 11 := by
      rw [r3]; simp [ckD, pad4]; omega
    refine wp_go tokT hA hS ?_
    cbv
    split
    · rename_i c2
      have hk : k < s.tasks.length := yltL hA hTl r2 c2
      obtain ⟨t, ht⟩ : ∃ t, t = s.tasks[k] := ⟨_, rfl⟩
      obtain ⟨WL, hWL⟩ : ∃ WL, WL = t.works.map workD := ⟨_, rfl⟩
      have hTk : TL[k]? = some (.agg [I t.ready, I t.due, .sl 3 WL]) := by rw [hT]; simp [hk, ← ht, hWL, taskD]
      obtain ⟨CL2, hCL2⟩ : ∃ L, L = CL.set (3 + k) (I t.ready) := ⟨_, rfl⟩
      have hset : CL2 = ckD ⟨[0, 0, 0], pad4 ((s.tasks.take (k + 1)).map (·.ready)), [0, 0, 0, 0]⟩ := by
        have := cl_init ((s.tasks.take k).map (·.ready)) t.ready (by simp; omega)
        rw [hCL2, r3]
        have hl : ((s.tasks.take k).map (·.ready)).length = k := by simp; omega
        rw [hl] at this
        rw [this, List.take_add_one, List.getElem?_eq_getElem hk, ← ht]
        simp
      have hvw := ysetO hA 3 r2 hCL2
      have hfr : frL CL2 = true := by rw [hset]; exact ckD_fr _
      cbv
      refine ⟨yinbL hA hTl r2 hk, ⟨_, yget hA r2 hTk, ?_⟩⟩
      cbv
      refine ⟨yinb hA r2 (by omega), yltO hA 3 r2 hCl (by omega), yfit1 hA r2 (by omega), ?_⟩
      refine gs_loop (A.add i 1, k + 1, CL2) [0, 1, 2, 3] ⟨hk, ysucc hA r2, hset⟩ (by simp only; omega) ?_
      exact ⟨by decide, pre0, ⟨rfl, rfl, rfl, (congrArg (fun z => some (Blk.box (D.arr z))) hvw).trans (arr_ren _ hfr), trivial⟩, ⟨rfl, rfl, rfl, rfl, rfl, rfl, rfl, rfl, rfl, rfl, rfl, trivial⟩, rfl, rfl⟩
    · rename_i c2
      have hk : s.tasks.length ≤ k := ynltL hA hTl r2 c2
      have hk : k = s.tasks.length := by omega
      have r4 : CL = ckD (initC s) := by rw [r3, hk, List.take_length]; rfl
      have hfr : frL CL = true := by rw [r4]; exact ckD_fr _
      cbv
      refine gs_done ?_
      cbv
      refine at_code hS ?_
      refine wpa_loopG (α := Int × Nat × List D × List D) (fun q => { env := [(1, .v (.map none)), (2, .b 0 0), (5, .o 1 7 N), (7, .b 2 0), (8, .b 3 0), (22, .sl 2 SL), (23, I 2), (24, I j), (44, .sl 1 PL), (45, I (A.oi (A.len PL))), (46, I q.1)], H := [.box (.agg [I s.benches, .sl 3 TL, .sl 1 PL]), .els 7 q.2.2.1, .box (.agg [.fn f [], .fn g []]), .box (.arr q.2.2.2)], nt := 133, dfs := [] })
        (fun q => p.length - q.2.1) (fun q => q.2.1 ≤ p.length ∧ IsI q.1 q.2.1 ∧ q.2.2.1.length = N ∧ (∀ n, n < N → q.2.2.1[n]? = some (slotD (slAt s mo p sd q.2.1 n))) ∧ q.2.2.2 = ckD (ckAt sd s mo (initC s) 0 p q.2.1)) (0, 0, OL, CL) ⟨Nat.zero_le _, ⟨rfl⟩, q3, fun n hn => by rw [q4 n hn, hs0 n hn], r4⟩ ?_ ?_
      · exact gs_to [0, 1, 2, 3] ⟨by decide, pre0, ⟨rfl, rfl, rfl, arr_ren _ hfr, trivial⟩, ⟨rfl, rfl, rfl, rfl, rfl, rfl, rfl, rfl, rfl, rfl, rfl, trivial⟩, rfl, rfl⟩
      rintro ⟨a, n, OL', CL'⟩ ⟨u1, u2, u3, u4, u5⟩
      dsimp only at u1 u2 u3 u4 u5
      have hCl' : CL'.length = 11 := by
        have hc := ck_ok (sd := sd) (more := mo) (M := M) hv hp hM.1 hm n u1
        rw [u5]; simp [ckD, hc.bn, hc.tk, hc.dn]
      refine wp_go tokT hA hS ?_
      cbv
      split
      · rename_i c3
        have hn : n < p.length := yltL hA hPl u2 c3
        obtain ⟨pi, kN, wb, t, w, tk, bn, sv, hf⟩ := step_facts (sd := sd) hv hp hM hm hpl hn
        obtain ⟨piI, hpiI⟩ : ∃ x, IsI x pi := ⟨_, ⟨rfl⟩⟩
        obtain ⟨kI, hkI⟩ : ∃ x, IsI x kN := ⟨_, ⟨rfl⟩⟩
        have hp4 := hf.p4
        have hpt := hf.pt
        have hPn : PL[n]? = some (I piI) := by rw [hP, hpiI.eq]; simp [hf.pn]
        have hd : CL'[7 + pi]? = some (I kI) := by rw [u5, hkI.eq]; exact hf.dn
        have htk : CL'[3 + pi]? = some (I tk) := by rw [u5]; exact hf.tkv
        have hbn : CL'[0 + wb]? = some (I bn) := by rw [u5]; exact hf.bnv
        obtain ⟨WL, hWL⟩ : ∃ WL, WL = t.works.map workD := ⟨_, rfl⟩
        have hWl : WL.length = t.works.length := by rw [hWL]; simp
        have hTp : TL[pi]? = some (.agg [I t.ready, I t.due, .sl 3 WL]) := by rw [hT]; simp [hf.tt, hWL, taskD]
        have hWk : WL[kN]? = some (.agg [I w.b, I w.lo, I w.hi]) := by rw [hWL]; simp [hf.ww, workD]
        obtain ⟨o, ho⟩ : ∃ o, o = slAt s mo p sd n n := ⟨_, rfl⟩
        have hNn : n < N := by omega
        have hOn : OL'[n]? = some (slotD o) := by rw [ho]; exact u4 n hNn
        obtain ⟨oT, oK, oB, oBl, oBh, oEl, oEh⟩ := o
        have bx := ybtwMax hA hf.tkb hf.bnb
        have by1 := ybtwAdd hA bx hf.svb
        obtain ⟨mv, hmv⟩ : ∃ x : Int, x = mo n := ⟨_, rfl⟩
        have bm : Btw 0 (0 : Int) 1000 := ⟨by decide, by decide⟩
        have hm0 : mo n = 0 := by rw [hmo]
        obtain ⟨yy, hyy⟩ : ∃ y, y = A.add (A.add (A.max tk bn) sv) 0 := ⟨_, rfl⟩
        have hyy2 : yy = max tk bn + sv + mo n := by rw [hyy, hm0, xadd hA, xadd hA, xmax hA]
        obtain ⟨CL2, hCL2⟩ : ∃ L, L = ckD (ckAt sd s mo (initC s) 0 p (n + 1)) := ⟨_, rfl⟩
        have hset := hCL2.trans (hf.nx yy hyy2)
        rw [← u5] at hset
        have hfr : frL CL2 = true := by rw [hCL2]; exact ckD_fr _
        rw [← (ysucc hA hkI).eq, hyy] at hset
        obtain ⟨bl1, hbl1⟩ : ∃ x : Int, x = pk sd (A.max tk bn) oBl := ⟨_, rfl⟩
        obtain ⟨bh1, hbh1⟩ : ∃ x : Int, x = pk sd oBh (A.max tk bn) := ⟨_, rfl⟩
        obtain ⟨el1, hel1⟩ : ∃ x : Int, x = pk sd yy oEl := ⟨_, rfl⟩
        obtain ⟨eh1, heh1⟩ : ∃ x : Int, x = pk sd oEh yy := ⟨_, rfl⟩
        have hsl : slAt s mo p sd (n + 1) n = ⟨piI, kI, w.b, bl1, bh1, el1, eh1⟩ := by
          rw [hf.sl (A.max tk bn) yy _ (xmax hA _ _) (by rw [hyy2, xmax hA]) ho, hbl1, hbh1, hel1, heh1, hpiI.eq, hkI.eq]
        obtain ⟨R0, hR0⟩ : ∃ R, R = A.set (A.set (A.set OL' (A.tn a) (.agg [I piI, I oK, I oB, I oBl, I oBh, I oEl, I oEh])) (A.tn a) (.agg [I piI, I kI, I oB, I oBl, I oBh, I oEl, I oEh])) (A.tn a) (.agg [I piI, I kI, I w.b, I oBl, I oBh, I oEl, I oEh]) := ⟨_, rfl⟩
        have hR0l : R0.length = N := by rw [hR0]; exact ysetLen hA (ysetLen hA (ysetLen hA u3))
        have hR0n : R0[A.tn a]? = some (.agg [I piI, I kI, I w.b, I oBl, I oBh, I oEl, I oEh]) := by
          rw [hR0, xset hA]; exact List.getElem?_set_self (by rw [ysetLen hA (ysetLen hA u3), ytn hA u2]; exact hNn)
        obtain ⟨R1, hR1⟩ : ∃ R1, R1 = R0.set (A.tn a) (.agg [I piI, I kI, I w.b, I bl1, I bh1, I oEl, I oEh]) := ⟨_, rfl⟩
        have hR1n : R1[A.tn a]? = some (.agg [I piI, I kI, I w.b, I bl1, I bh1, I oEl, I oEh]) := by
          rw [hR1]; exact List.getElem?_set_self (by rw [ytn hA u2, hR0l]; exact hNn)
        obtain ⟨R2, hR2⟩ : ∃ R2, R2 = R1.set (A.tn a) (.agg [I piI, I kI, I w.b, I bl1, I bh1, I el1, I eh1]) := ⟨_, rfl⟩
        have hR2l : R2.length = N := by rw [hR2, List.length_set, hR1, List.length_set, hR0l]
        have hR2k : R2[A.tn a]? = some (.agg [I piI, I kI, I w.b, I bl1, I bh1, I el1, I eh1]) := by
          rw [hR2]; exact List.getElem?_set_self (by rw [ytn hA u2, hR1, List.length_set, hR0l]; exact hNn)
        have hR2n : ∀ m, m < N → R2[m]? = some (slotD (slAt s mo p sd (n + 1) m)) := fun m hm' => by
          rw [ytn hA u2] at hR1 hR2 hR0
          by_cases e : m = n
          · rw [ytn hA u2] at hR2k; rw [e, hsl, hR2k]; rfl
          · rw [sl_other e, hR2, List.getElem?_set_ne (Ne.symm e), hR1, List.getElem?_set_ne (Ne.symm e), hR0, xset hA, xset hA, xset hA, List.getElem?_set_ne (Ne.symm e), List.getElem?_set_ne (Ne.symm e), List.getElem?_set_ne (Ne.symm e)]; exact u4 m hm'
        cbv
        refine ⟨yinbL hA hPl u2 hn, ⟨_, yget hA u2 hPn, ?_⟩⟩
        cbv
        refine ⟨yinb hA hpiI hp4, ⟨_, ygetO hA 7 hpiI hd, ?_⟩⟩
        cbv
        refine ⟨yinbL hA hTl hpiI hpt, ⟨_, yget hA hpiI hTp, ?_⟩⟩
        cbv
        refine ⟨yinbL hA hWl hkI hf.kw, ⟨_, yget hA hkI hWk, ?_⟩⟩
        cbv
        refine draw_go tokT hA hS [0, 1, 2, 3, 4, 5, 6, 7, 8, 9, 10] rfl rfl fun Dk hD => ?_
        cbv
        refine ⟨yinb hA hpiI hp4, ⟨_, ygetO hA 3 hpiI htk, ?_⟩⟩
        cbv
        refine ⟨yinb hA hf.wbi hf.wb3, ⟨_, ygetO hA 0 hf.wbi hbn, ?_⟩⟩
        cbv
        refine draw_go tokT hA hS [0, 1, 2, 3, 4, 7, 8, 9, 5, 6, 10, 11] rfl rfl fun Dk hD => ?_
        cbv
        refine ⟨[a], rfl, ?_⟩
        cbv
        refine draw_call hA hD [.agg [I w.lo, I w.hi]] [] [] rfl rfl rfl rfl rfl rfl rfl rfl rfl rfl rfl (by decide) trivial (hsd.of w.lo w.hi _ ⟨?_, draw_on tokT hA hD ?_⟩)
        · cbv; exact ⟨⟨[a], rfl, rfl⟩, trivial⟩
        rw [← hf.sve]
        cbv
        refine ⟨yfitAdd hA bx hf.svb (by decide), yfitAdd hA by1 bm (by decide), ?_⟩
        cbv
        refine ⟨yinb hA u2 hNn, ?_⟩
        refine draw_go tokT hA hS [0, 1, 2, 3, 4, 5, 6, 7, 8, 9, 10, 11, 12, 13, 14, 15] rfl rfl fun Dk hD => ?_
        cbv
        refine ⟨_, yget hA u2 hOn, ?_⟩
        cbv
        refine ⟨_, ysetGet hA u2 u3 hNn, ?_⟩
        cbv
        refine ⟨_, ysetGet hA u2 (ysetLen hA u3) hNn, ?_⟩
        cbv
        refine draw_go tokT hA hS [0, 1, 2, 3, 4, 5, 6] rfl rfl fun Dk hD => ?_
        cbv
        refine draw_call hA hD [.p 0 7 (A.tn a) 3, I (A.max tk bn)] [1] [.els 7 (A.set (A.set (A.set OL' (A.tn a) (.agg [I piI, I oK, I oB, I oBl, I oBh, I oEl, I oEh])) (A.tn a) (.agg [I piI, I kI, I oB, I oBl, I oBh, I oEl, I oEh])) (A.tn a) (.agg [I piI, I kI, I w.b, I oBl, I oBh, I oEl, I oEh]))] rfl rfl rfl rfl rfl rfl rfl rfl rfl rfl rfl (by decide) ⟨rfl, trivial⟩ (hsd.sB (A.tn a) (A.max tk bn) piI kI w.b oBl oBh oEl oEh bl1 bh1 _ R1 _ (hR0 ▸ hR0n) hbl1 hbh1 (hR0 ▸ hR1) fun d1 => ⟨?_, draw_on tokT hA hD ?_⟩)
        · cbv
        cbv
        refine draw_go tokT hA hS [0, 1, 2, 3, 4, 5, 6] rfl rfl fun Dk hD => ?_
        cbv
        refine draw_call hA hD [.p 0 7 (A.tn a) 5, I (A.add (A.add (A.max tk bn) sv) 0)] [1] [.els 7 R1] rfl rfl rfl rfl rfl rfl rfl rfl rfl rfl rfl (by decide) ⟨rfl, trivial⟩ (hsd.sE (A.tn a) (A.add (A.add (A.max tk bn) sv) 0) piI kI w.b bl1 bh1 oEl oEh el1 eh1 _ R2 _ hR1n (hyy ▸ hel1) (hyy ▸ heh1) hR2 fun d2 => ⟨?_, draw_on tokT hA hD ?_⟩)
        · cbv
        cbv
        refine draw_go tokT hA hS [0, 1, 2, 3, 4, 5, 6, 7, 8, 11, 14, 9, 10, 12, 13, 15, 16] rfl rfl fun Dk hD => ?_
        cbv
        have hpj : A.ltN (A.addN 0 (A.mulN (A.tn w.b) 1)) (A.set CL' (A.addN 3 (A.mulN (A.tn piI) 1)) (I (A.add (A.add (A.max tk bn) sv) 0))) := yltO hA 0 hf.wbi (m := 11) (by rw [xset hA, List.length_set]; exact hCl') (by have := hf.wb3; omega)
        have hpk : A.ltN (A.addN 7 (A.mulN (A.tn piI) 1)) (A.set (A.set CL' (A.addN 3 (A.mulN (A.tn piI) 1)) (I (A.add (A.add (A.max tk bn) sv) 0))) (A.addN 0 (A.mulN (A.tn w.b) 1)) (I (A.add (A.add (A.max tk bn) sv) 0))) := yltO hA 7 hpiI (m := 11) (by rw [xset hA, List.length_set, xset hA, List.length_set]; exact hCl') (by omega)
        refine ⟨yfit1 hA hkI (by have := hf.kl; omega), yinb hA hpiI hp4, yltO hA 3 hpiI hCl' (by omega), yinb hA hf.wbi hf.wb3, hpj, yinb hA hpiI hp4, hpk, yfit1 hA u2 (by omega), ?_⟩
        refine gs_loop (A.add a 1, n + 1, R2, CL2) [0, 1, 2, 3] ⟨hn, ysucc hA u2, hR2l, hR2n, hCL2⟩ (by simp only; omega) ?_
        exact ⟨by decide, pre0, ⟨rfl, rfl, rfl, arr_set3 hA hpiI hf.wbi hset _ hfr, trivial⟩, ⟨rfl, rfl, rfl, rfl, rfl, rfl, rfl, rfl, rfl, rfl, rfl, trivial⟩, rfl, rfl⟩
      · rename_i c3
        have hn : p.length ≤ n := ynltL hA hPl u2 c3
        have hn2 : n = N := by omega
        cbv
        refine gs_done ?_
        cbv
        refine ⟨yfit1 hA q2 (by omega), ?_⟩
        refine gs_loop (A.add j 1, jn + 1, OL') [0, 1] ⟨hj, ysucc hA q2, u3, fun m hm' => by rw [hs1 m hm', ← hn2]; exact u4 m hm'⟩ (by simp only; omega) ?_
        exact ⟨by decide, pre0, ⟨rfl, rfl, trivial⟩, ⟨rfl, rfl, rfl, rfl, rfl, rfl, trivial⟩, rfl, rfl⟩
  · rename_i c
    have hj : 2 ≤ jn := ynltC hA 2 q2 c
    have hj2 : jn = 2 := by omega
    have hOL : OL = (runS s mo p).map slotD := by
      refine List.ext_getElem? fun m => ?_
      by_cases h : m < N
      · rw [q4 m h, hst, hj2]
        simp only [runS, List.map_map, List.getElem?_map]
        rw [List.getElem?_range (by omega)]
        simp [slAt, h]
      · rw [List.getElem?_eq_none (by omega), List.getElem?_eq_none (by simp [runS]; omega)]
    cbv
    refine gs_done ?_
    cbv
    refine gh_frz [1] ?_
    cbv
    refine ⟨by cases OL <;> exact q3.symm, ?_⟩
    rw [← hOL] at hq
    exact gh_view [] (by decide) pre0 (H' := []) (d' := .sl 7 OL) trivial rfl (gh_done hq)

set_option maxRecDepth 20000 in
set_option maxHeartbeats 4000000 in
/-- bench.planned.run. -/
theorem bRunM (s : Sh) (hv : Val s) (p : List Nat) (hp : PlanLe s p) (hpl : p.length ≤ 20) (TL PL : List D) (hT : TL = s.tasks.map taskD) (hP : PL = p.map (fun i => I (i : Nat))) (mo : Nat → Int) (M : Int) (hM : 0 ≤ M ∧ M ≤ 1000) (hm : ∀ a, 0 ≤ mo a ∧ mo a ≤ M) (ents : List (List Int × D)) (hen : ∀ (a : Int) n, IsI a n → n < p.length → ∀ {A : Ar}, A = ar → A.mget ents [a] (I 0) = some (I (mo n))) (Q)
    (hq : Q (RA.ret (.sl 7 ((runS s mo p).map slotD))) [.ob (.mp 0 ents)]) : CallA Tryd.prog 79 [.agg [I s.benches, .sl 3 TL, .sl 1 PL], .mv 0] [.ob (.mp 0 ents)] Q := by
  obtain ⟨A, hA⟩ : ∃ A, A = ar := ⟨_, rfl⟩
  have hTl : TL.length = s.tasks.length := by rw [hT]; simp
  have hPl : PL.length = p.length := by rw [hP]; simp
  have hr0 : 0 ≤ ((PL.length : Nat) : Int) := by omega
  have hr1 : PL.length * 56 ≤ 140737488355328 ∧ PL.length ≤ 4611686018427387904 := by omega
  refine callA_start tokT hA Tryd.func79 rfl rfl rfl rfl rfl fun S hS => ?_
  cbv
  refine ⟨by subst hA; exact hr0, by subst hA; exact hr1, ?_⟩
  refine ops_call hS [] [] [] rfl rfl rfl rfl rfl rfl rfl rfl (by decide) trivial (sides _ ?_)
  refine ops_go tokT hA hS ?_
  cbv
  refine at_code hS ?_
  obtain ⟨SL, hSL⟩ : ∃ SL : List D, SL = [.agg [.fn 114 [], .fn 115 []], .agg [.fn 116 [], .fn 117 []]] := ⟨_, rfl⟩
  have hSl2 : SL.length = 2 := by rw [hSL]; rfl
  obtain ⟨N, hN⟩ : ∃ N, N = p.length := ⟨_, rfl⟩
  obtain ⟨st, hst⟩ : ∃ st : Nat → Nat → Sl, st = fun j n => slAt s mo p (decide (1 ≤ j)) (if 2 ≤ j then N else 0) n := ⟨_, rfl⟩
  have hside : ∀ jn, jn < 2 → ∃ f g sd, SideOk f g sd ∧ SL[jn]? = some (.agg [.fn f [], .fn g []]) ∧ (∀ n, n < N → st jn n = slAt s mo p sd 0 n) ∧ (∀ n, n < N → st (jn + 1) n = slAt s mo p sd N n) := fun jn hj => by
    match jn, hj with
    | 0, _ => exact ⟨114, 115, false, side0, by rw [hSL]; rfl, fun n hn => by rw [hst]; rfl, fun n hn => by rw [hst]; simp [slAt, hn]⟩
    | 1, _ => exact ⟨116, 117, true, side1, by rw [hSL]; rfl, fun n hn => by rw [hst]; rfl, fun n hn => by rw [hst]; rfl⟩
  have hPN : PL.length = N := by omega
  refine wpa_loopG (α := Int × Nat × List D) (fun q => { env := [(1, .mv 0), (2, .b 1 0), (5, .o 2 7 N), (22, .sl 2 SL), (23, I 2), (24, I q.1)], H := [.ob (.mp 0 ents), .box (.agg [I s.benches, .sl 3 TL, .sl 1 PL]), .els 7 q.2.2], nt := 133, dfs := [] })
    (fun q => 2 - q.2.1) (fun q => q.2.1 ≤ 2 ∧ IsI q.1 q.2.1 ∧ q.2.2.length = N ∧ ∀ n, n < N → q.2.2[n]? = some (slotD (st q.2.1 n))) (0, 0, List.replicate PL.length (slotD ⟨0, 0, 0, 0, 0, 0, 0⟩)) ⟨Nat.zero_le _, ⟨rfl⟩, by simp; omega, fun n hn => ?_⟩ ?_ ?_
  · subst hst
    simp only [List.getElem?_replicate]
    rw [if_pos (by omega)]
    simp [slAt]
  · exact gs_to [0, 1, 2] ⟨by decide, pre1, ⟨rfl, rfl, by subst hA; rfl, trivial⟩, ⟨rfl, rfl, by subst hA; rw [← hPN]; rfl, by rw [hSL]; rfl, by subst hA; rfl, rfl, trivial⟩, rfl, rfl⟩
  rintro ⟨j, jn, OL⟩ ⟨q1, q2, q3, q4⟩
  dsimp only at q1 q2 q3 q4
  refine wp_go tokT hA hS ?_
  cbv
  split
  · rename_i c
    have hj : jn < 2 := yltC hA 2 q2 c
    obtain ⟨f, g, sd, hsd, hSLj, hs0, hs1⟩ := hside jn hj
    cbv
    refine ⟨yinbL hA hSl2 q2 hj, ⟨_, yget hA q2 hSLj, ?_⟩⟩
    cbv
    refine at_code hS ?_
    refine wpa_loopG (α := Int × Nat × List D) (fun q => { env := [(1, .mv 0), (2, .b 1 0), (5, .o 2 7 N), (7, .b 3 0), (8, .b 4 0), (22, .sl 2 SL), (23, I 2), (24, I j), (30, .sl 3 TL), (31, I (A.oi (A.len TL))), (32, I q.1)], H := [.ob (.mp 0 ents), .box (.agg [I s.benches, .sl 3 TL, .sl 1 PL]), .els 7 OL, .box (.agg [.fn f [], .fn g []]), .box (.arr q.2.2)], nt := 133, dfs := [] })
      (fun q => s.tasks.length - q.2.1) (fun q => q.2.1 ≤ s.tasks.length ∧ IsI q.1 q.2.1 ∧ q.2.2 = ckD ⟨[0, 0, 0], pad4 ((s.tasks.take q.2.1).map (·.ready)), [0, 0, 0, 0]⟩) (0, 0, ckD ⟨[0, 0, 0], pad4 [], [0, 0, 0, 0]⟩) ⟨Nat.zero_le _, ⟨rfl⟩, rfl⟩ ?_ ?_
    · refine gs_weakB 4 (.arr (ckD ⟨[0, 0, 0], pad4 [], [0, 0, 0, 0]⟩)) rfl WkL.rfl ?_
      exact gs_to [0, 1, 2, 3, 4] ⟨by decide, pre1, ⟨rfl, rfl, rfl, rfl, rfl, trivial⟩, ⟨rfl, rfl, rfl, rfl, rfl, rfl, rfl, rfl, rfl, rfl, rfl, trivial⟩, rfl, rfl⟩
    rintro ⟨i, k, CL⟩ ⟨r1, r2, r3⟩
    dsimp only at r1 r2 r3
    have hlen4 := hv.len
    have hCl : CL.length = 11 := by
      rw [r3]; simp [ckD, pad4]; omega
    refine wp_go tokT hA hS ?_
    cbv
    split
    · rename_i c2
      have hk : k < s.tasks.length := yltL hA hTl r2 c2
      obtain ⟨t, ht⟩ : ∃ t, t = s.tasks[k] := ⟨_, rfl⟩
      obtain ⟨WL, hWL⟩ : ∃ WL, WL = t.works.map workD := ⟨_, rfl⟩
      have hTk : TL[k]? = some (.agg [I t.ready, I t.due, .sl 3 WL]) := by rw [hT]; simp [hk, ← ht, hWL, taskD]
      obtain ⟨CL2, hCL2⟩ : ∃ L, L = CL.set (3 + k) (I t.ready) := ⟨_, rfl⟩
      have hset : CL2 = ckD ⟨[0, 0, 0], pad4 ((s.tasks.take (k + 1)).map (·.ready)), [0, 0, 0, 0]⟩ := by
        have := cl_init ((s.tasks.take k).map (·.ready)) t.ready (by simp; omega)
        rw [hCL2, r3]
        have hl : ((s.tasks.take k).map (·.ready)).length = k := by simp; omega
        rw [hl] at this
        rw [this, List.take_add_one, List.getElem?_eq_getElem hk, ← ht]
        simp
      have hvw := ysetO hA 3 r2 hCL2
      have hfr : frL CL2 = true := by rw [hset]; exact ckD_fr _
      cbv
      refine ⟨yinbL hA hTl r2 hk, ⟨_, yget hA r2 hTk, ?_⟩⟩
      cbv
      refine ⟨yinb hA r2 (by omega), yltO hA 3 r2 hCl (by omega), yfit1 hA r2 (by omega), ?_⟩
      refine gs_loop (A.add i 1, k + 1, CL2) [0, 1, 2, 3, 4] ⟨hk, ysucc hA r2, hset⟩ (by simp only; omega) ?_
      exact ⟨by decide, pre1, ⟨rfl, rfl, rfl, rfl, (congrArg (fun z => some (Blk.box (D.arr z))) hvw).trans (arr_ren _ hfr), trivial⟩, ⟨rfl, rfl, rfl, rfl, rfl, rfl, rfl, rfl, rfl, rfl, rfl, trivial⟩, rfl, rfl⟩
    · rename_i c2
      have hk : s.tasks.length ≤ k := ynltL hA hTl r2 c2
      have hk : k = s.tasks.length := by omega
      have r4 : CL = ckD (initC s) := by rw [r3, hk, List.take_length]; rfl
      have hfr : frL CL = true := by rw [r4]; exact ckD_fr _
      cbv
      refine gs_done ?_
      cbv
      refine at_code hS ?_
      refine wpa_loopG (α := Int × Nat × List D × List D) (fun q => { env := [(1, .mv 0), (2, .b 1 0), (5, .o 2 7 N), (7, .b 3 0), (8, .b 4 0), (22, .sl 2 SL), (23, I 2), (24, I j), (44, .sl 1 PL), (45, I (A.oi (A.len PL))), (46, I q.1)], H := [.ob (.mp 0 ents), .box (.agg [I s.benches, .sl 3 TL, .sl 1 PL]), .els 7 q.2.2.1, .box (.agg [.fn f [], .fn g []]), .box (.arr q.2.2.2)], nt := 133, dfs := [] })
        (fun q => p.length - q.2.1) (fun q => q.2.1 ≤ p.length ∧ IsI q.1 q.2.1 ∧ q.2.2.1.length = N ∧ (∀ n, n < N → q.2.2.1[n]? = some (slotD (slAt s mo p sd q.2.1 n))) ∧ q.2.2.2 = ckD (ckAt sd s mo (initC s) 0 p q.2.1)) (0, 0, OL, CL) ⟨Nat.zero_le _, ⟨rfl⟩, q3, fun n hn => by rw [q4 n hn, hs0 n hn], r4⟩ ?_ ?_
      · exact gs_to [0, 1, 2, 3, 4] ⟨by decide, pre1, ⟨rfl, rfl, rfl, rfl, arr_ren _ hfr, trivial⟩, ⟨rfl, rfl, rfl, rfl, rfl, rfl, rfl, rfl, rfl, rfl, rfl, trivial⟩, rfl, rfl⟩
      rintro ⟨a, n, OL', CL'⟩ ⟨u1, u2, u3, u4, u5⟩
      dsimp only at u1 u2 u3 u4 u5
      have hCl' : CL'.length = 11 := by
        have hc := ck_ok (sd := sd) (more := mo) (M := M) hv hp hM.1 hm n u1
        rw [u5]; simp [ckD, hc.bn, hc.tk, hc.dn]
      refine wp_go tokT hA hS ?_
      cbv
      split
      · rename_i c3
        have hn : n < p.length := yltL hA hPl u2 c3
        obtain ⟨pi, kN, wb, t, w, tk, bn, sv, hf⟩ := step_facts (sd := sd) hv hp hM hm hpl hn
        obtain ⟨piI, hpiI⟩ : ∃ x, IsI x pi := ⟨_, ⟨rfl⟩⟩
        obtain ⟨kI, hkI⟩ : ∃ x, IsI x kN := ⟨_, ⟨rfl⟩⟩
        have hp4 := hf.p4
        have hpt := hf.pt
        have hPn : PL[n]? = some (I piI) := by rw [hP, hpiI.eq]; simp [hf.pn]
        have hd : CL'[7 + pi]? = some (I kI) := by rw [u5, hkI.eq]; exact hf.dn
        have htk : CL'[3 + pi]? = some (I tk) := by rw [u5]; exact hf.tkv
        have hbn : CL'[0 + wb]? = some (I bn) := by rw [u5]; exact hf.bnv
        obtain ⟨WL, hWL⟩ : ∃ WL, WL = t.works.map workD := ⟨_, rfl⟩
        have hWl : WL.length = t.works.length := by rw [hWL]; simp
        have hTp : TL[pi]? = some (.agg [I t.ready, I t.due, .sl 3 WL]) := by rw [hT]; simp [hf.tt, hWL, taskD]
        have hWk : WL[kN]? = some (.agg [I w.b, I w.lo, I w.hi]) := by rw [hWL]; simp [hf.ww, workD]
        obtain ⟨o, ho⟩ : ∃ o, o = slAt s mo p sd n n := ⟨_, rfl⟩
        have hNn : n < N := by omega
        have hOn : OL'[n]? = some (slotD o) := by rw [ho]; exact u4 n hNn
        obtain ⟨oT, oK, oB, oBl, oBh, oEl, oEh⟩ := o
        have bx := ybtwMax hA hf.tkb hf.bnb
        have by1 := ybtwAdd hA bx hf.svb
        obtain ⟨mv, hmv⟩ : ∃ x, x = mo n := ⟨_, rfl⟩
        have bm : Btw 0 mv 1000 := by rw [hmv]; have := hm n; exact ⟨by omega, by omega⟩
        obtain ⟨yy, hyy⟩ : ∃ y, y = A.add (A.add (A.max tk bn) sv) mv := ⟨_, rfl⟩
        have hyy2 : yy = max tk bn + sv + mo n := by rw [hyy, ← hmv, xadd hA, xadd hA, xmax hA]
        obtain ⟨CL2, hCL2⟩ : ∃ L, L = ckD (ckAt sd s mo (initC s) 0 p (n + 1)) := ⟨_, rfl⟩
        have hset := hCL2.trans (hf.nx yy hyy2)
        rw [← u5] at hset
        have hfr : frL CL2 = true := by rw [hCL2]; exact ckD_fr _
        rw [← (ysucc hA hkI).eq, hyy] at hset
        obtain ⟨bl1, hbl1⟩ : ∃ x : Int, x = pk sd (A.max tk bn) oBl := ⟨_, rfl⟩
        obtain ⟨bh1, hbh1⟩ : ∃ x : Int, x = pk sd oBh (A.max tk bn) := ⟨_, rfl⟩
        obtain ⟨el1, hel1⟩ : ∃ x : Int, x = pk sd yy oEl := ⟨_, rfl⟩
        obtain ⟨eh1, heh1⟩ : ∃ x : Int, x = pk sd oEh yy := ⟨_, rfl⟩
        have hsl : slAt s mo p sd (n + 1) n = ⟨piI, kI, w.b, bl1, bh1, el1, eh1⟩ := by
          rw [hf.sl (A.max tk bn) yy _ (xmax hA _ _) (by rw [hyy2, xmax hA]) ho, hbl1, hbh1, hel1, heh1, hpiI.eq, hkI.eq]
        obtain ⟨R0, hR0⟩ : ∃ R, R = A.set (A.set (A.set OL' (A.tn a) (.agg [I piI, I oK, I oB, I oBl, I oBh, I oEl, I oEh])) (A.tn a) (.agg [I piI, I kI, I oB, I oBl, I oBh, I oEl, I oEh])) (A.tn a) (.agg [I piI, I kI, I w.b, I oBl, I oBh, I oEl, I oEh]) := ⟨_, rfl⟩
        have hR0l : R0.length = N := by rw [hR0]; exact ysetLen hA (ysetLen hA (ysetLen hA u3))
        have hR0n : R0[A.tn a]? = some (.agg [I piI, I kI, I w.b, I oBl, I oBh, I oEl, I oEh]) := by
          rw [hR0, xset hA]; exact List.getElem?_set_self (by rw [ysetLen hA (ysetLen hA u3), ytn hA u2]; exact hNn)
        obtain ⟨R1, hR1⟩ : ∃ R1, R1 = R0.set (A.tn a) (.agg [I piI, I kI, I w.b, I bl1, I bh1, I oEl, I oEh]) := ⟨_, rfl⟩
        have hR1n : R1[A.tn a]? = some (.agg [I piI, I kI, I w.b, I bl1, I bh1, I oEl, I oEh]) := by
          rw [hR1]; exact List.getElem?_set_self (by rw [ytn hA u2, hR0l]; exact hNn)
        obtain ⟨R2, hR2⟩ : ∃ R2, R2 = R1.set (A.tn a) (.agg [I piI, I kI, I w.b, I bl1, I bh1, I el1, I eh1]) := ⟨_, rfl⟩
        have hR2l : R2.length = N := by rw [hR2, List.length_set, hR1, List.length_set, hR0l]
        have hR2k : R2[A.tn a]? = some (.agg [I piI, I kI, I w.b, I bl1, I bh1, I el1, I eh1]) := by
          rw [hR2]; exact List.getElem?_set_self (by rw [ytn hA u2, hR1, List.length_set, hR0l]; exact hNn)
        have hR2n : ∀ m, m < N → R2[m]? = some (slotD (slAt s mo p sd (n + 1) m)) := fun m hm' => by
          rw [ytn hA u2] at hR1 hR2 hR0
          by_cases e : m = n
          · rw [ytn hA u2] at hR2k; rw [e, hsl, hR2k]; rfl
          · rw [sl_other e, hR2, List.getElem?_set_ne (Ne.symm e), hR1, List.getElem?_set_ne (Ne.symm e), hR0, xset hA, xset hA, xset hA, List.getElem?_set_ne (Ne.symm e), List.getElem?_set_ne (Ne.symm e), List.getElem?_set_ne (Ne.symm e)]; exact u4 m hm'
        cbv
        refine ⟨yinbL hA hPl u2 hn, ⟨_, yget hA u2 hPn, ?_⟩⟩
        cbv
        refine ⟨yinb hA hpiI hp4, ⟨_, ygetO hA 7 hpiI hd, ?_⟩⟩
        cbv
        refine ⟨yinbL hA hTl hpiI hpt, ⟨_, yget hA hpiI hTp, ?_⟩⟩
        cbv
        refine ⟨yinbL hA hWl hkI hf.kw, ⟨_, yget hA hkI hWk, ?_⟩⟩
        cbv
        refine draw_go tokT hA hS [0, 1, 2, 3, 4, 5, 6, 7, 8, 9, 10] rfl rfl fun Dk hD => ?_
        cbv
        refine ⟨yinb hA hpiI hp4, ⟨_, ygetO hA 3 hpiI htk, ?_⟩⟩
        cbv
        refine ⟨yinb hA hf.wbi hf.wb3, ⟨_, ygetO hA 0 hf.wbi hbn, ?_⟩⟩
        cbv
        refine draw_go tokT hA hS [0, 1, 2, 3, 4, 7, 8, 9, 5, 6, 10, 11] rfl rfl fun Dk hD => ?_
        cbv
        refine ⟨[a], rfl, ⟨I mv, (hen a n u2 hn hA).trans (by rw [hmv]), ?_⟩⟩
        cbv
        refine draw_call hA hD [.agg [I w.lo, I w.hi]] [] [] rfl rfl rfl rfl rfl rfl rfl rfl rfl rfl rfl (by decide) trivial (hsd.of w.lo w.hi _ ⟨?_, draw_on tokT hA hD ?_⟩)
        · cbv; exact ⟨⟨[a], rfl, ⟨I mv, (hen a n u2 hn hA).trans (by rw [hmv]), rfl⟩⟩, trivial⟩
        rw [← hf.sve]
        cbv
        refine ⟨yfitAdd hA bx hf.svb (by decide), yfitAdd hA by1 bm (by decide), ?_⟩
        cbv
        refine ⟨yinb hA u2 hNn, ?_⟩
        refine draw_go tokT hA hS [0, 1, 2, 3, 4, 5, 6, 7, 8, 9, 10, 11, 12, 13, 14, 15] rfl rfl fun Dk hD => ?_
        cbv
        refine ⟨_, yget hA u2 hOn, ?_⟩
        cbv
        refine ⟨_, ysetGet hA u2 u3 hNn, ?_⟩
        cbv
        refine ⟨_, ysetGet hA u2 (ysetLen hA u3) hNn, ?_⟩
        cbv
        refine draw_go tokT hA hS [0, 1, 2, 3, 4, 5, 6] rfl rfl fun Dk hD => ?_
        cbv
        refine draw_call hA hD [.p 0 7 (A.tn a) 3, I (A.max tk bn)] [2] [.els 7 (A.set (A.set (A.set OL' (A.tn a) (.agg [I piI, I oK, I oB, I oBl, I oBh, I oEl, I oEh])) (A.tn a) (.agg [I piI, I kI, I oB, I oBl, I oBh, I oEl, I oEh])) (A.tn a) (.agg [I piI, I kI, I w.b, I oBl, I oBh, I oEl, I oEh]))] rfl rfl rfl rfl rfl rfl rfl rfl rfl rfl rfl (by decide) ⟨rfl, trivial⟩ (hsd.sB (A.tn a) (A.max tk bn) piI kI w.b oBl oBh oEl oEh bl1 bh1 _ R1 _ (hR0 ▸ hR0n) hbl1 hbh1 (hR0 ▸ hR1) fun d1 => ⟨?_, draw_on tokT hA hD ?_⟩)
        · cbv
        cbv
        refine draw_go tokT hA hS [0, 1, 2, 3, 4, 5, 6] rfl rfl fun Dk hD => ?_
        cbv
        refine draw_call hA hD [.p 0 7 (A.tn a) 5, I (A.add (A.add (A.max tk bn) sv) mv)] [2] [.els 7 R1] rfl rfl rfl rfl rfl rfl rfl rfl rfl rfl rfl (by decide) ⟨rfl, trivial⟩ (hsd.sE (A.tn a) (A.add (A.add (A.max tk bn) sv) mv) piI kI w.b bl1 bh1 oEl oEh el1 eh1 _ R2 _ hR1n (hyy ▸ hel1) (hyy ▸ heh1) hR2 fun d2 => ⟨?_, draw_on tokT hA hD ?_⟩)
        · cbv
        cbv
        refine draw_go tokT hA hS [0, 1, 2, 3, 4, 5, 6, 7, 8, 11, 14, 9, 10, 12, 13, 15, 16] rfl rfl fun Dk hD => ?_
        cbv
        have hpj : A.ltN (A.addN 0 (A.mulN (A.tn w.b) 1)) (A.set CL' (A.addN 3 (A.mulN (A.tn piI) 1)) (I (A.add (A.add (A.max tk bn) sv) mv))) := yltO hA 0 hf.wbi (m := 11) (by rw [xset hA, List.length_set]; exact hCl') (by have := hf.wb3; omega)
        have hpk : A.ltN (A.addN 7 (A.mulN (A.tn piI) 1)) (A.set (A.set CL' (A.addN 3 (A.mulN (A.tn piI) 1)) (I (A.add (A.add (A.max tk bn) sv) mv))) (A.addN 0 (A.mulN (A.tn w.b) 1)) (I (A.add (A.add (A.max tk bn) sv) mv))) := yltO hA 7 hpiI (m := 11) (by rw [xset hA, List.length_set, xset hA, List.length_set]; exact hCl') (by omega)
        refine ⟨yfit1 hA hkI (by have := hf.kl; omega), yinb hA hpiI hp4, yltO hA 3 hpiI hCl' (by omega), yinb hA hf.wbi hf.wb3, hpj, yinb hA hpiI hp4, hpk, yfit1 hA u2 (by omega), ?_⟩
        refine gs_loop (A.add a 1, n + 1, R2, CL2) [0, 1, 2, 3, 4] ⟨hn, ysucc hA u2, hR2l, hR2n, hCL2⟩ (by simp only; omega) ?_
        exact ⟨by decide, pre1, ⟨rfl, rfl, rfl, rfl, arr_set3 hA hpiI hf.wbi hset _ hfr, trivial⟩, ⟨rfl, rfl, rfl, rfl, rfl, rfl, rfl, rfl, rfl, rfl, rfl, trivial⟩, rfl, rfl⟩
      · rename_i c3
        have hn : p.length ≤ n := ynltL hA hPl u2 c3
        have hn2 : n = N := by omega
        cbv
        refine gs_done ?_
        cbv
        refine ⟨yfit1 hA q2 (by omega), ?_⟩
        refine gs_loop (A.add j 1, jn + 1, OL') [0, 1, 2] ⟨hj, ysucc hA q2, u3, fun m hm' => by rw [hs1 m hm', ← hn2]; exact u4 m hm'⟩ (by simp only; omega) ?_
        exact ⟨by decide, pre1, ⟨rfl, rfl, rfl, trivial⟩, ⟨rfl, rfl, rfl, rfl, rfl, rfl, trivial⟩, rfl, rfl⟩
  · rename_i c
    have hj : 2 ≤ jn := ynltC hA 2 q2 c
    have hj2 : jn = 2 := by omega
    have hOL : OL = (runS s mo p).map slotD := by
      refine List.ext_getElem? fun m => ?_
      by_cases h : m < N
      · rw [q4 m h, hst, hj2]
        simp only [runS, List.map_map, List.getElem?_map]
        rw [List.getElem?_range (by omega)]
        simp [slAt, h]
      · rw [List.getElem?_eq_none (by omega), List.getElem?_eq_none (by simp [runS]; omega)]
    cbv
    refine gs_done ?_
    cbv
    refine gh_frz [2] ?_
    cbv
    refine ⟨by cases OL <;> exact q3.symm, ?_⟩
    rw [← hOL] at hq
    exact gh_view [0] (by decide) pre1 (H' := [.ob (.mp 0 ents)]) (d' := .sl 7 OL) ⟨rfl, trivial⟩ rfl (gh_done hq)
end Go.Proofs.YtmloogdalecilaaDoor

/-
  Texts of the proof, part 28: the machine, contracts of functions, plain laws. (Own work.)
-/
import Derived.Test.YteefbiehcfmoeaaGreatDoorG23DalangParses

namespace Go.Vm
open Go.Proofs
theorem kr29 : topB kD 75 ([(.agg [(lu [1, 2]), (.sl 5 [(lu [100, 100]), (lu [120, 100]), (lu [140, 100]), (lu [160, 100]), (lu [180, 100])] .unk), n' 990, n' 1010, n' 990, n' 1010, n' 1, n' 0]), (lu [130, 100])]) (.tup [nilS, n' 7]) = true := by kernel_rfl
theorem kr30 : topB kD 75 ([(.agg [(lu [1, 2]), (.sl 5 [(lu [100, 100]), (lu [120, 100]), (lu [140, 100]), (lu [160, 100]), (lu [180, 100])] .unk), n' 990, n' 1010, n' 990, n' 1010, n' 1, n' 0]), (lu [139, 100])]) (.tup [(lu [1, 1, 3, 1, 1]), n' 0]) = true := by kernel_rfl
end Go.Vm

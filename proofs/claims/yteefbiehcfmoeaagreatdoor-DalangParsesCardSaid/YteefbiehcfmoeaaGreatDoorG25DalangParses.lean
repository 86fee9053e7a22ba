/-
  Texts of the proof, part 25: the machine, contracts of functions, plain laws. (Own work.)
-/
import Derived.Test.YteefbiehcfmoeaaGreatDoorG23DalangParses

namespace Go.Vm
open Go.Proofs
theorem kr0 : topB kD 81 ([kv2]) (.lit (.bool true)) = true := by kernel_rfl
theorem kr11 : topB kD 91 ([(.agg [n' 0, n' 60, n' 70, n' 120, n' 130, n' 180, n' 200, kv3])]) (.tup [(lu [0, 1, 2, 4]), (lu [40, 20, 60, 60]), n' 0]) = true := by kernel_rfl
theorem kr12 : topB kD 70 ([(.agg [n' 30, n' 60, n' 70, n' 120, n' 130, n' 180, n' 200, kv3])]) (.tup [(.sl 3 [n' 70, n' 70, n' 120, n' 130, n' 180, n' 200] .unk), n' 0]) = true := by kernel_rfl
theorem kr13 : topB kD 91 ([(.agg [n' 30, n' 60, n' 70, n' 120, n' 130, n' 180, n' 200, kv3])]) (.tup [(lu [0, 2, 4]), (lu [40, 50, 60]), n' 0]) = true := by kernel_rfl
theorem kr14 : topB kD 70 ([(.agg [n' 31, n' 60, n' 70, n' 120, n' 130, n' 180, n' 200, kv3])]) (.tup [nilS, n' 7]) = true := by kernel_rfl
theorem kr31 : topB kD 76 ([kv5, (lu [0, 0, 1, 1, 2])]) (.tup [(.agg [n' 3, n' 1, n' 3]), n' 0]) = true := by kernel_rfl
theorem kr32 : topB kD 76 ([kv5, (lu [0, 0, 1, 0, 2])]) (.tup [(.agg [n' 0, n' 0, n' 0]), n' 5]) = true := by kernel_rfl
theorem kr33 : topB kD 97 ([kv5, (lu [0, 0, 1, 0, 2]), (lu [2])]) (.tup [(lu [0, 1, 3]), n' 0]) = true := by kernel_rfl
end Go.Vm

/-
  Texts of the proof, part 26: the machine, contracts of functions, plain laws. (Own work.)
-/
import Derived.Test.YteefbiehcfmoeaaGreatDoorG23DalangParses

namespace Go.Vm
open Go.Proofs
theorem kr15 : topB kD 92 ([(.agg [n' 2, n' 3, kv0]), nilS]) (.tup [(lu [0, 1, 2, 3]), n' 0]) = true := by kernel_rfl
theorem kr16 : topB kD 92 ([(.agg [n' 2, n' 3, kv0]), (.sl 1 [nilS, nilS] .full)]) (.tup [(lu [0, 1, 2, 3]), n' 0]) = true := by kernel_rfl
theorem kr17 : topB kD 94 ([(.agg [n' 2, n' 3, kv0]), nilS, (.agg [nilS, nilS])]) (.tup [n' 0, n' 4, n' 0]) = true := by kernel_rfl
theorem kr23 : topB kD 92 ([(.agg [n' 2, n' 3, kv0]), (.sl 1 [(lu [0, 1, 0]), (lu [0, (-1), 2])] .full)]) (.tup [(lu [0]), n' 0]) = true := by kernel_rfl
theorem kr24 : topB kD 94 ([(.agg [n' 2, n' 3, kv0]), nilS, (.agg [(lu [0, 1, 0]), (lu [0, (-1), 2])])]) (.tup [n' (-1), n' 0, n' 0]) = true := by kernel_rfl
end Go.Vm

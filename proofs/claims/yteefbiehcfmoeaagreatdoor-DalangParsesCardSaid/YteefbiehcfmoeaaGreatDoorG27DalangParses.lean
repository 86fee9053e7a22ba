/-
  Texts of the proof, part 27: the machine, contracts of functions, plain laws. (Own work.)
-/
import Derived.Test.YteefbiehcfmoeaaGreatDoorG23DalangParses

namespace Go.Vm
open Go.Proofs
theorem kr18 : topB kD 71 ([(.agg [n' 2, n' 3, kv0]), nilS, (.agg [(lu [0]), (lu [0])]), n' 0]) (.tup [(lu [0]), n' 0]) = true := by kernel_rfl
theorem kr19 : topB kD 71 ([(.agg [n' 2, n' 3, kv0]), nilS, (.agg [(lu [0]), (lu [0])]), n' 2]) (.tup [(lu [0]), n' 0]) = true := by kernel_rfl
theorem kr20 : topB kD 71 ([(.agg [n' 2, n' 3, kv0]), nilS, (.agg [(lu [0, 0]), (lu [0, 1])]), n' 0]) (.tup [nilS, n' 7]) = true := by kernel_rfl
theorem kr21 : topB kD 71 ([(.agg [n' 2, n' 3, kv0]), nilS, (.agg [(lu [0, 1]), (lu [0, (-1)])]), n' 0]) (.tup [(lu [0]), n' 0]) = true := by kernel_rfl
theorem kr22 : topB kD 71 ([(.agg [n' 2, n' 3, kv0]), nilS, (.agg [(lu [0, 1, 0]), (lu [0, (-1), 2])]), n' 0]) (.tup [(lu [0]), n' 0]) = true := by kernel_rfl
theorem kr26 : topB kD 72 ([kv4, n' 0]) (.tup [(.lit (.bool true)), n' 0]) = true := by kernel_rfl
theorem kr27 : topB kD 72 ([kv4, n' 1]) (.tup [(.lit (.bool true)), n' 0]) = true := by kernel_rfl
theorem kr28 : topB kD 96 ([kv4, n' 1]) (.tup [(lu [1, 3, 2]), n' 0]) = true := by kernel_rfl
end Go.Vm

/-
  Texts of the proof, part 24: the machine, contracts of functions, plain laws. (Own work.)
-/
import Derived.Test.YteefbiehcfmoeaaGreatDoorG23DalangParses

namespace Go.Vm
open Go.Proofs
theorem kr5 : topB (toldK rowsA) 60 ([kv2]) (kv1) = true := by kernel_rfl
theorem kr10 : topB (toldK rowsA) 60 ([kv1]) (kv1) = true := by kernel_rfl
end Go.Vm

/-
  Texts of the proof, part 36: the machine, contracts of functions, plain laws. (Own work.)
-/
import Derived.Test.YteefbiehcfmoeaaGreatDoorG32DalangParses

namespace Go.Vm
open Go.Proofs
theorem ks28 : stepB kKn sK sK' (entK 9) 9 (entK 9) 9 [112, 97, 99, 107, 32, 48, 32, 48, 32, 49, 32, 49, 32, 50] [101, 114, 114, 111, 114, 32, 55] = true := by kernel_rfl
theorem ks29 : stepB kKn sK sK' (entK 9) 9 (entK 10) 10 [112, 97, 99, 107, 32, 48, 32, 48, 32, 49, 32, 48, 32, 50] [110, 111, 116, 101, 100] = true := by kernel_rfl
theorem ks30 : stepB kKn sK sK' (entK 10) 10 (entK 10) 10 [112, 108, 97, 121, 32, 48] [101, 114, 114, 111, 114, 32, 55] = true := by kernel_rfl
theorem ks31 : stepB kKn sK sK' (entK 10) 10 (entK 10) 10 [111, 117, 116, 32, 50] [48, 32, 49, 32, 51] = true := by kernel_rfl
theorem ks32 : stepB kKn sK sK' (entK 10) 10 (entK 11) 11 [117, 110, 112, 97, 99, 107] [110, 111, 116, 101, 100] = true := by kernel_rfl
theorem ks33 : stepB kKn sK sK' (entK 11) 11 (entK 11) 11 [111, 117, 116, 32, 50] [101, 114, 114, 111, 114, 32, 55] = true := by kernel_rfl
end Go.Vm

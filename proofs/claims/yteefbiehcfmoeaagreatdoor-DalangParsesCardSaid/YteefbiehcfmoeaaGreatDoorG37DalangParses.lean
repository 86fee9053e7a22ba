/-
  Texts of the proof, part 37: the machine, contracts of functions, plain laws. (Own work.)
-/
import Derived.Test.YteefbiehcfmoeaaGreatDoorG32DalangParses

namespace Go.Vm
open Go.Proofs
theorem ks34 : stepB kKn sK sK' (entK 11) 11 (entK 12) 12 [119, 97, 105, 116, 32, 49, 48, 48] [110, 111, 116, 101, 100] = true := by kernel_rfl
theorem ks35 : stepB kKn sK sK' (entK 12) 12 (entK 12) 12 [119, 97, 105, 116, 32, 49] [101, 114, 114, 111, 114, 32, 55] = true := by kernel_rfl
theorem ks36 : stepB kKn sK sK' (entK 12) 12 (entK 12) 12 [112, 108, 97, 121, 101, 100] [48] = true := by kernel_rfl
theorem ks37 : stepB kKn sK sK' (entK 12) 12 (entK 12) 12 [115, 116, 97, 110, 100, 115] [50, 32, 51, 32, 52, 32, 53, 32, 54, 32, 55, 32, 56, 32, 57, 32, 49, 48, 32, 49, 49] = true := by kernel_rfl
theorem ks38 : stepB kKn sK sK' (entK 12) 12 (entK 13) 13 [117, 110, 100, 111] [110, 111, 116, 101, 100] = true := by kernel_rfl
theorem ks39 : stepB kKn sK sK' (entK 13) 13 (entK 13) 13 [110, 105, 103, 104, 116] [48] = true := by kernel_rfl
end Go.Vm

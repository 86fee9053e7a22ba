/-
  Texts of the proof, part 34: the machine, contracts of functions, plain laws. (Own work.)
-/
import Derived.Test.YteefbiehcfmoeaaGreatDoorG32DalangParses

namespace Go.Vm
open Go.Proofs
theorem ks14 : stepB kKn sK sK' (entK 4) 4 (entK 5) 5 [99, 117, 101, 32, 48, 32, 50] [110, 111, 116, 101, 100] = true := by kernel_rfl
theorem ks15 : stepB kKn sK sK' (entK 5) 5 (entK 5) 5 [114, 101, 109, 97, 105, 110, 115] [48] = true := by kernel_rfl
theorem ks16 : stepB kKn sK sK' (entK 5) 5 (entK 5) 5 [97, 115, 107] [45, 49, 32, 48] = true := by kernel_rfl
theorem ks17 : stepB kKn sK sK' (entK 5) 5 (entK 5) 5 [98, 101, 115, 116] [48, 32, 48, 32, 49, 32, 48, 32, 50] = true := by kernel_rfl
theorem ks18 : stepB kKn sK sK' (entK 5) 5 (entK 6) 6 [114, 101, 115, 116] [110, 111, 116, 101, 100] = true := by kernel_rfl
theorem ks19 : stepB kKn sK sK' (entK 6) 6 (entK 6) 6 [114, 101, 115, 116] [101, 114, 114, 111, 114, 32, 55] = true := by kernel_rfl
theorem ks20 : stepB kKn sK sK' (entK 6) 6 (entK 7) 7 [112, 108, 97, 121, 32, 48] [110, 111, 116, 101, 100] = true := by kernel_rfl
theorem ks21 : stepB kKn sK sK' (entK 7) 7 (entK 8) 8 [108, 101, 110, 100, 32, 50] [110, 111, 116, 101, 100] = true := by kernel_rfl
end Go.Vm

/-
  Texts of the proof, part 35: the machine, contracts of functions, plain laws. (Own work.)
-/
import Derived.Test.YteefbiehcfmoeaaGreatDoorG32DalangParses

namespace Go.Vm
open Go.Proofs
theorem ks22 : stepB kKn sK sK' (entK 8) 8 (entK 8) 8 [104, 111, 109, 101] [48, 32, 49, 32, 51, 32, 52] = true := by kernel_rfl
theorem ks23 : stepB kKn sK sK' (entK 8) 8 (entK 8) 8 [112, 108, 97, 121, 32, 49] [101, 114, 114, 111, 114, 32, 55] = true := by kernel_rfl
theorem ks24 : stepB kKn sK sK' (entK 8) 8 (entK 8) 8 [99, 97, 110, 32, 49] [48] = true := by kernel_rfl
theorem ks25 : stepB kKn sK sK' (entK 8) 8 (entK 8) 8 [102, 105, 114, 115, 116, 32, 49] [49, 32, 51, 32, 50] = true := by kernel_rfl
theorem ks26 : stepB kKn sK sK' (entK 8) 8 (entK 8) 8 [98, 97, 99, 107, 32, 50, 32, 49, 51, 48, 32, 49, 48, 48] [101, 114, 114, 111, 114, 32, 55] = true := by kernel_rfl
theorem ks27 : stepB kKn sK sK' (entK 8) 8 (entK 9) 9 [98, 97, 99, 107, 32, 50, 32, 49, 51, 57, 32, 49, 48, 48] [110, 111, 116, 101, 100] = true := by kernel_rfl
end Go.Vm

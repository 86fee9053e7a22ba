/-
  Texts of the proof, part 33: the machine, contracts of functions, plain laws. (Own work.)
-/
import Derived.Test.YteefbiehcfmoeaaGreatDoorG32DalangParses

namespace Go.Vm
open Go.Proofs
theorem ks0 : stepB kKn sK sK' (entK 0) 0 (entK 0) 0 [110, 105, 103, 104, 116] [48] = true := by kernel_rfl
theorem ks1 : stepB kKn sK sK' (entK 0) 0 (entK 0) 0 [112, 114, 111, 103, 114, 97, 109, 109, 101] [48, 32, 49, 32, 50, 32, 52] = true := by kernel_rfl
theorem ks2 : stepB kKn sK sK' (entK 0) 0 (entK 1) 1 [98, 101, 103, 105, 110, 32, 51, 48] [110, 111, 116, 101, 100] = true := by kernel_rfl
theorem ks3 : stepB kKn sK sK' (entK 1) 1 (entK 1) 1 [112, 114, 111, 103, 114, 97, 109, 109, 101] [48, 32, 50, 32, 52] = true := by kernel_rfl
theorem ks4 : stepB kKn sK sK' (entK 1) 1 (entK 1) 1 [101, 110, 100, 115] [55, 48, 32, 55, 48, 32, 49, 50, 48, 32, 49, 51, 48, 32, 49, 56, 48, 32, 50, 48, 48] = true := by kernel_rfl
theorem ks5 : stepB kKn sK sK' (entK 1) 1 (entK 1) 1 [98, 101, 103, 105, 110, 32, 51, 49] [101, 114, 114, 111, 114, 32, 55] = true := by kernel_rfl
theorem ks6 : stepB kKn sK sK' (entK 1) 1 (entK 2) 2 [117, 110, 100, 111] [110, 111, 116, 101, 100] = true := by kernel_rfl
theorem ks7 : stepB kKn sK sK' (entK 2) 2 (entK 2) 2 [112, 114, 111, 103, 114, 97, 109, 109, 101] [48, 32, 49, 32, 50, 32, 52] = true := by kernel_rfl
theorem ks8 : stepB kKn sK sK' (entK 2) 2 (entK 2) 2 [114, 101, 109, 97, 105, 110, 115] [48, 32, 49, 32, 50, 32, 51] = true := by kernel_rfl
theorem ks9 : stepB kKn sK sK' (entK 2) 2 (entK 2) 2 [97, 115, 107] [48, 32, 52] = true := by kernel_rfl
theorem ks10 : stepB kKn sK sK' (entK 2) 2 (entK 3) 3 [99, 117, 101, 32, 48, 32, 48] [110, 111, 116, 101, 100] = true := by kernel_rfl
theorem ks11 : stepB kKn sK sK' (entK 3) 3 (entK 3) 3 [110, 101, 118, 101, 114, 32, 50] [48] = true := by kernel_rfl
theorem ks12 : stepB kKn sK sK' (entK 3) 3 (entK 3) 3 [99, 117, 101, 32, 48, 32, 49] [101, 114, 114, 111, 114, 32, 55] = true := by kernel_rfl
theorem ks13 : stepB kKn sK sK' (entK 3) 3 (entK 4) 4 [107, 110, 111, 99, 107, 32, 49] [110, 111, 116, 101, 100] = true := by kernel_rfl
end Go.Vm

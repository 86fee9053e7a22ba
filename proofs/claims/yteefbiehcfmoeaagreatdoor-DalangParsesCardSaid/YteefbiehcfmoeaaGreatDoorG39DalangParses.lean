/-
  Texts of the proof, part 39: the machine, contracts of functions, plain laws. (Own work.)
-/
import Derived.Test.YteefbiehcfmoeaaGreatDoorG22DalangParses
import Derived.Test.YteefbiehcfmoeaaGreatDoorG38DalangParses

namespace Go.Vm
open Go.Proofs
theorem c_dalangParses (l : List UInt8) (H : List Blk) : ACall Tryz.prog 5 [sA (bT l)] H (.ret (.lit (.bool true))) H := parses_law known_call l H
end Go.Vm

/-
  Texts of the proof, part 38: the machine, contracts of functions, plain laws. (Own work.)
-/
import Derived.Test.YteefbiehcfmoeaaGreatDoorG20DalangLines
import Derived.Test.YteefbiehcfmoeaaGreatDoorG37DalangLines

namespace Go.Vm
open Go.Proofs
theorem c_dalangLines (x : EntryD) (H : List Blk) : ACall Tryz.prog 4 [eEntry x] H (.ret (.lit (.bool true))) H := lines_law known_call x H
end Go.Vm

/-
  Texts of the proof, part 37: the machine, contracts of functions, plain laws. (Own work.)
-/
import Derived.Test.YteefbiehcfmoeaaGreatDoorG20DalangNil
import Derived.Test.YteefbiehcfmoeaaGreatDoorG36DalangNil

namespace Go.Vm
open Go.Proofs
theorem c_dalangNil (x q : EntryD) (H : List Blk) : ACall Tryz.prog 3 [eEntry x, eEntry q] H (.ret (.lit (.bool true))) H := nil_law known_call x q H
end Go.Vm

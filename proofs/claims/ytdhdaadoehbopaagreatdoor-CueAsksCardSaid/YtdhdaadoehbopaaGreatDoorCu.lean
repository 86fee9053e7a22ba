/-
  Join of package cue, by classes and a search by breadth, for books and evenings as told at each, in every heap. Conditions: at each theorem.
-/
import Derived.Test.YtdhdaadoehbopaaGreatDoorVc
import Derived.Test.YtdhdaadoehbopaaGreatDoorCt
import Derived.Test.YtdhdaadoehbopaaGreatDoorCr
import Derived.Test.YtdhdaadoehbopaaGreatDoorCf
import Derived.Test.YtdhdaadoehbopaaGreatDoorCj

namespace Go.Vm
open Go.Proofs
def clMap (b : Book) (cl : Sta → Nat) : Blk := .map (.arr 2) (kE (cE (allP b.vs) cl))
end Go.Vm

namespace Go.Vm
open Go.Proofs
end Go.Vm

namespace Go.Vm
open Go.Proofs
end Go.Vm

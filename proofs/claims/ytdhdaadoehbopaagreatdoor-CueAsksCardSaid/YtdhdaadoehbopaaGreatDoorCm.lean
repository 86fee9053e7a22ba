/-
  Contracts of functions of packages kelirlaw04, kelirref04, kelirref02, cue and slices, for books, evenings and lists as told at each, in every heap. Conditions: at each theorem. (Fences: their order; lists of cues without some.)
-/
import Derived.Test.YtdhdaadoehbopaaGreatDoorCl
import Derived.Test.YtdhdaadoehbopaaGreatDoorCb
import Derived.Test.YtdhdaadoehbopaaGreatDoorCo
import Derived.Test.YtdhdaadoehbopaaGreatDoorCd
import Derived.Test.YtdhdaadoehbopaaGreatDoorCc

namespace Go.Vm
open Go.Proofs
end Go.Vm

namespace Go.Vm
open Go.Proofs
section
variable {v : Vers} {k : Nat} {tune : Int} {wo : List Int}
end
end Go.Vm

namespace Go.Vm
open Go.Proofs
end Go.Vm

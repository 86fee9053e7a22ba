/-
  Contracts of functions of packages kelirlaw04, kelirref04, kelirref02, cue and slices, for books, evenings and lists as told at each, in every heap. Conditions: at each theorem. (Dangers and fences, by a search by breadth.)
-/
import Derived.Test.YtdhdaadoehbopaaGreatDoorCo

namespace Go.Vm
open Go.Proofs
abbrev Pt := Nat × Bool
end Go.Vm

namespace Go.Vm
open Go.Proofs
structure BfP where
 q : List (Pt × List Nat)
 met : List Pt
 g : Nat
end Go.Vm

namespace Go.Vm
open Go.Proofs
end Go.Vm

namespace Go.Vm
open Go.Proofs
section
variable {b : Book} {i : Int} {v : Vers} (hi : 0 ≤ i) (hv : b.vs[i.toNat]? = some v) (hvo : VersOk v b.cues.toNat) (hv0 : 0 < v.length) (hv4 : v.length ≤ 4) (hbc : inI b.cues 1 4) (tune : Int)
include hi hv hvo hv0 hv4 hbc
end
end Go.Vm

/-
  Contracts of functions of packages kelirlaw04, kelirref04, kelirref02, cue and slices, for books, evenings and lists as told at each, in every heap. Conditions: at each theorem. (The document's table of first lists that tell states apart.)
-/
import Derived.Test.YtdhdaadoehbopaaGreatDoorCq
import Derived.Test.YtdhdaadoehbopaaGreatDoorVc

namespace Go.Vm
open Go.Proofs
def Tells (v w : Vers) (i j : Nat) (u : List Nat) : Prop := plays v i (cuesI u) ≠ plays w j (cuesI u)
structure DOk (v w : Vers) (K r i j : Nat) (l : List Nat) : Prop where
 yes : l ≠ [] → OkL K l ∧ Tells v w i j l ∧ l.length ≤ r ∧ ∀ u, OkL K u → Tells v w i j u → LE l u
 no : l = [] → ∀ u, OkL K u → u.length ≤ r → ¬ Tells v w i j u
end Go.Vm

namespace Go.Vm
open Go.Proofs
end Go.Vm

namespace Go.Vm
open Go.Proofs
end Go.Vm

/-
  Machines that differ do so soon, on which this claim rests; no statement of the program is proved here. Conditions: none.
-/
import Derived.Test.YtdhdaadoehbopaaGreatDoorCo

namespace Go.Vm
open Go.Proofs
structure TellR (v w : Vers) (k : Nat) (o : Option (List Nat)) : Prop where
 no : o = none → ∀ u, OkL k u → plays v 0 (cuesI u) = plays w 0 (cuesI u)
 yes : ∀ l, o = some l → OkL k l ∧ plays v 0 (cuesI l) ≠ plays w 0 (cuesI l) ∧ ∀ u, OkL k u → plays v 0 (cuesI u) ≠ plays w 0 (cuesI u) → LE l u
end Go.Vm

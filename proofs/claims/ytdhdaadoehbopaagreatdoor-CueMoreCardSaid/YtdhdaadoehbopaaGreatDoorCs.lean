/-
  Reduced versions, on which this claim rests; no statement of the program is proved here. Conditions: none.
-/
import Derived.Test.YtdhdaadoehbopaaGreatDoorCo
import Derived.Test.YtdhdaadoehbopaaGreatDoorCp
import Derived.Test.YtdhdaadoehbopaaGreatDoorCr

namespace Go.Vm
open Go.Proofs
section
variable (al : Nat → Nat → Bool)
def plcB : List Nat → Nat → Option Nat
 | [], _ => none
 | x :: l, n => if al x n = true then some 0 else (plcB l n).map (· + 1)
def insB (S : List Nat) (n : Nat) : List Nat := if (plcB al S n).isSome then S else S ++ [n]
variable (v : Vers) (K : Nat)
def nxS (a c : Nat) : Nat := (mv v a c).1.toNat
def rowF (S : List Nat) (i : Nat) : Nat → List Nat
 | 0 => S
 | c + 1 => insB al (rowF S i c) (nxS v (S.getD i 0) c)
def stF : Nat → List Nat
 | 0 => [0]
 | i + 1 => rowF al v (stF i) i K
structure Exit (N : Nat) : Prop where
 on : ∀ i, i < N → i < (stF al v K i).length
 off : (stF al v K N).length ≤ N
end
section
variable {al : Nat → Nat → Bool}
variable {v : Vers} {K : Nat}
structure StOkR (al : Nat → Nat → Bool) (v : Vers) (S : List Nat) : Prop where
 lt : ∀ x ∈ S, x < v.length
 apart : S.Pairwise fun x y => al x y = false
variable (hnx : ∀ x, x < v.length → ∀ c, c < K → nxS v x c < v.length)
include hnx
omit hnx
end
end Go.Vm

namespace Go.Vm
open Go.Proofs
section
variable {P : Program} {m : Bool} {g : Nat → Option Blk} {n : Nat} {ρ : Operand → Option AV} {o : Oper} {t kt et id : Nat} {x k y : Operand} {key : Int} {es : List (Int × Int)} {v : Int}
end
end Go.Vm

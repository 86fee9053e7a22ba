/-
  Texts of the proof, part 30: the machine, contracts of functions, plain laws. (Own work.)
-/
import Derived.Test.YteefbiehcfmoeaaGreatDoorG23DalangParses

namespace Go.Vm
open Go.Proofs
def figK : List AV := [n' 4, n' 3, n' 0, n' 3, n' 2, n' 0, n' 5, n' 2, n' 1, n' 2, n' 3, n' 1, n' 6, n' 1, n' 2]
def pk (k : Nat) (l : List Int) : AV := .agg [n' 10, n' 3, .sl k (figK.take (3 * k)) .unk, .sl k (l.map n') .unk]
def okV : AV := .tup [.agg [n' 0, n' 0, n' 0], .lit (.bool false)]
def noV (a b c : Int) : AV := .tup [.agg [n' a, n' b, n' c], .lit (.bool true)]
theorem ke0 : topB kD 232 [pk 1 [0]] (okV) = true := by kernel_rfl
theorem ke1 : topB kD 232 [pk 2 [0, 0]] (okV) = true := by kernel_rfl
theorem ke2 : topB kD 232 [pk 3 [0, 0, 0]] (okV) = true := by kernel_rfl
theorem ke3 : topB kD 232 [pk 4 [0, 0, 0, 0]] (okV) = true := by kernel_rfl
theorem ke4 : topB kD 232 [pk 5 [0, 0, 0, 0, 0]] (okV) = true := by kernel_rfl
theorem ke5 : topB kD 159 [pk 5 [0, 0, 0, 0, 0]] (.lit (.bool false)) = true := by kernel_rfl
theorem ke6 : topB kD 232 [pk 5 [0, 0, 0, 0, 1]] (okV) = true := by kernel_rfl
theorem ke7 : topB kD 159 [pk 5 [0, 0, 0, 0, 1]] (.lit (.bool false)) = true := by kernel_rfl
theorem ke8 : topB kD 232 [pk 5 [0, 0, 0, 0, 2]] (okV) = true := by kernel_rfl
theorem ke9 : topB kD 159 [pk 5 [0, 0, 0, 0, 2]] (.lit (.bool false)) = true := by kernel_rfl
theorem ke10 : topB kD 232 [pk 4 [0, 0, 0, 1]] (noV 3 1 3) = true := by kernel_rfl
theorem ke11 : topB kD 232 [pk 4 [0, 0, 0, 2]] (noV 3 1 3) = true := by kernel_rfl
theorem ke12 : topB kD 232 [pk 3 [0, 0, 1]] (okV) = true := by kernel_rfl
theorem ke13 : topB kD 232 [pk 4 [0, 0, 1, 0]] (okV) = true := by kernel_rfl
theorem ke14 : topB kD 232 [pk 5 [0, 0, 1, 0, 0]] (noV 3 4 2) = true := by kernel_rfl
theorem ke15 : topB kD 232 [pk 5 [0, 0, 1, 0, 1]] (okV) = true := by kernel_rfl
theorem ke16 : topB kD 159 [pk 5 [0, 0, 1, 0, 1]] (.lit (.bool false)) = true := by kernel_rfl
theorem ke17 : topB kD 232 [pk 5 [0, 0, 1, 0, 2]] (okV) = true := by kernel_rfl
theorem ke18 : topB kD 159 [pk 5 [0, 0, 1, 0, 2]] (.lit (.bool true)) = true := by kernel_rfl
theorem ke19 : topB kD 232 [pk 4 [0, 0, 1, 1]] (noV 3 1 3) = true := by kernel_rfl
theorem ke20 : topB kD 232 [pk 4 [0, 0, 1, 2]] (noV 3 1 3) = true := by kernel_rfl
theorem ke21 : topB kD 232 [pk 3 [0, 0, 2]] (okV) = true := by kernel_rfl
theorem ke22 : topB kD 232 [pk 4 [0, 0, 2, 0]] (okV) = true := by kernel_rfl
theorem ke23 : topB kD 232 [pk 5 [0, 0, 2, 0, 0]] (noV 3 4 2) = true := by kernel_rfl
theorem ke24 : topB kD 232 [pk 5 [0, 0, 2, 0, 1]] (noV 3 4 2) = true := by kernel_rfl
theorem ke25 : topB kD 232 [pk 5 [0, 0, 2, 0, 2]] (okV) = true := by kernel_rfl
theorem ke26 : topB kD 159 [pk 5 [0, 0, 2, 0, 2]] (.lit (.bool false)) = true := by kernel_rfl
theorem ke27 : topB kD 232 [pk 4 [0, 0, 2, 1]] (noV 3 1 3) = true := by kernel_rfl
theorem ke28 : topB kD 232 [pk 4 [0, 0, 2, 2]] (noV 3 1 3) = true := by kernel_rfl
theorem ke29 : topB kD 232 [pk 2 [0, 1]] (okV) = true := by kernel_rfl
theorem ke30 : topB kD 232 [pk 3 [0, 1, 0]] (noV 4 2 1) = true := by kernel_rfl
theorem ke31 : topB kD 232 [pk 3 [0, 1, 1]] (okV) = true := by kernel_rfl
theorem ke32 : topB kD 232 [pk 4 [0, 1, 1, 0]] (noV 4 3 1) = true := by kernel_rfl
theorem ke33 : topB kD 232 [pk 4 [0, 1, 1, 1]] (okV) = true := by kernel_rfl
theorem ke34 : topB kD 232 [pk 5 [0, 1, 1, 1, 0]] (noV 3 4 1) = true := by kernel_rfl
theorem ke35 : topB kD 232 [pk 5 [0, 1, 1, 1, 1]] (okV) = true := by kernel_rfl
theorem ke36 : topB kD 159 [pk 5 [0, 1, 1, 1, 1]] (.lit (.bool false)) = true := by kernel_rfl
theorem ke37 : topB kD 232 [pk 5 [0, 1, 1, 1, 2]] (okV) = true := by kernel_rfl
theorem ke38 : topB kD 159 [pk 5 [0, 1, 1, 1, 2]] (.lit (.bool true)) = true := by kernel_rfl
theorem ke39 : topB kD 232 [pk 4 [0, 1, 1, 2]] (noV 3 1 3) = true := by kernel_rfl
theorem ke40 : topB kD 232 [pk 3 [0, 1, 2]] (okV) = true := by kernel_rfl
theorem ke41 : topB kD 232 [pk 4 [0, 1, 2, 0]] (noV 4 3 1) = true := by kernel_rfl
theorem ke42 : topB kD 232 [pk 4 [0, 1, 2, 1]] (okV) = true := by kernel_rfl
theorem ke43 : topB kD 232 [pk 5 [0, 1, 2, 1, 0]] (noV 3 4 1) = true := by kernel_rfl
theorem ke44 : topB kD 232 [pk 5 [0, 1, 2, 1, 1]] (noV 3 4 2) = true := by kernel_rfl
theorem ke45 : topB kD 232 [pk 5 [0, 1, 2, 1, 2]] (okV) = true := by kernel_rfl
theorem ke46 : topB kD 159 [pk 5 [0, 1, 2, 1, 2]] (.lit (.bool false)) = true := by kernel_rfl
theorem ke47 : topB kD 232 [pk 4 [0, 1, 2, 2]] (noV 3 1 3) = true := by kernel_rfl
theorem ke48 : topB kD 232 [pk 2 [0, 2]] (okV) = true := by kernel_rfl
theorem ke49 : topB kD 232 [pk 3 [0, 2, 0]] (noV 4 2 1) = true := by kernel_rfl
theorem ke50 : topB kD 232 [pk 3 [0, 2, 1]] (noV 4 2 1) = true := by kernel_rfl
theorem ke51 : topB kD 232 [pk 3 [0, 2, 2]] (okV) = true := by kernel_rfl
theorem ke52 : topB kD 232 [pk 4 [0, 2, 2, 0]] (noV 4 3 1) = true := by kernel_rfl
theorem ke53 : topB kD 232 [pk 4 [0, 2, 2, 1]] (noV 4 3 1) = true := by kernel_rfl
theorem ke54 : topB kD 232 [pk 4 [0, 2, 2, 2]] (okV) = true := by kernel_rfl
theorem ke55 : topB kD 232 [pk 5 [0, 2, 2, 2, 0]] (noV 3 4 1) = true := by kernel_rfl
theorem ke56 : topB kD 232 [pk 5 [0, 2, 2, 2, 1]] (noV 3 4 1) = true := by kernel_rfl
theorem ke57 : topB kD 232 [pk 5 [0, 2, 2, 2, 2]] (okV) = true := by kernel_rfl
theorem ke58 : topB kD 159 [pk 5 [0, 2, 2, 2, 2]] (.lit (.bool false)) = true := by kernel_rfl
theorem ke59 : topB kD 232 [pk 1 [1]] (okV) = true := by kernel_rfl
theorem ke60 : topB kD 232 [pk 2 [1, 0]] (noV 3 1 0) = true := by kernel_rfl
theorem ke61 : topB kD 232 [pk 2 [1, 1]] (okV) = true := by kernel_rfl
theorem ke62 : topB kD 232 [pk 3 [1, 1, 0]] (noV 3 2 0) = true := by kernel_rfl
theorem ke63 : topB kD 232 [pk 3 [1, 1, 1]] (okV) = true := by kernel_rfl
theorem ke64 : topB kD 232 [pk 4 [1, 1, 1, 0]] (noV 4 3 0) = true := by kernel_rfl
theorem ke65 : topB kD 232 [pk 4 [1, 1, 1, 1]] (okV) = true := by kernel_rfl
theorem ke66 : topB kD 232 [pk 5 [1, 1, 1, 1, 0]] (noV 3 4 0) = true := by kernel_rfl
theorem ke67 : topB kD 232 [pk 5 [1, 1, 1, 1, 1]] (okV) = true := by kernel_rfl
theorem ke68 : topB kD 159 [pk 5 [1, 1, 1, 1, 1]] (.lit (.bool false)) = true := by kernel_rfl
theorem ke69 : topB kD 232 [pk 5 [1, 1, 1, 1, 2]] (okV) = true := by kernel_rfl
theorem ke70 : topB kD 159 [pk 5 [1, 1, 1, 1, 2]] (.lit (.bool false)) = true := by kernel_rfl
theorem ke71 : topB kD 232 [pk 4 [1, 1, 1, 2]] (noV 3 1 3) = true := by kernel_rfl
theorem ke72 : topB kD 232 [pk 3 [1, 1, 2]] (okV) = true := by kernel_rfl
theorem ke73 : topB kD 232 [pk 4 [1, 1, 2, 0]] (noV 4 3 0) = true := by kernel_rfl
theorem ke74 : topB kD 232 [pk 4 [1, 1, 2, 1]] (okV) = true := by kernel_rfl
theorem ke75 : topB kD 232 [pk 5 [1, 1, 2, 1, 0]] (noV 3 4 0) = true := by kernel_rfl
theorem ke76 : topB kD 232 [pk 5 [1, 1, 2, 1, 1]] (noV 3 4 2) = true := by kernel_rfl
theorem ke77 : topB kD 232 [pk 5 [1, 1, 2, 1, 2]] (okV) = true := by kernel_rfl
theorem ke78 : topB kD 159 [pk 5 [1, 1, 2, 1, 2]] (.lit (.bool false)) = true := by kernel_rfl
theorem ke79 : topB kD 232 [pk 4 [1, 1, 2, 2]] (noV 3 1 3) = true := by kernel_rfl
theorem ke80 : topB kD 232 [pk 2 [1, 2]] (okV) = true := by kernel_rfl
theorem ke81 : topB kD 232 [pk 3 [1, 2, 0]] (noV 3 2 0) = true := by kernel_rfl
theorem ke82 : topB kD 232 [pk 3 [1, 2, 1]] (noV 4 2 1) = true := by kernel_rfl
theorem ke83 : topB kD 232 [pk 3 [1, 2, 2]] (okV) = true := by kernel_rfl
theorem ke84 : topB kD 232 [pk 4 [1, 2, 2, 0]] (noV 4 3 0) = true := by kernel_rfl
theorem ke85 : topB kD 232 [pk 4 [1, 2, 2, 1]] (noV 4 3 1) = true := by kernel_rfl
theorem ke86 : topB kD 232 [pk 4 [1, 2, 2, 2]] (okV) = true := by kernel_rfl
theorem ke87 : topB kD 232 [pk 5 [1, 2, 2, 2, 0]] (noV 3 4 0) = true := by kernel_rfl
theorem ke88 : topB kD 232 [pk 5 [1, 2, 2, 2, 1]] (noV 3 4 1) = true := by kernel_rfl
theorem ke89 : topB kD 232 [pk 5 [1, 2, 2, 2, 2]] (okV) = true := by kernel_rfl
theorem ke90 : topB kD 159 [pk 5 [1, 2, 2, 2, 2]] (.lit (.bool false)) = true := by kernel_rfl
theorem ke91 : topB kD 232 [pk 1 [2]] (okV) = true := by kernel_rfl
theorem ke92 : topB kD 232 [pk 2 [2, 0]] (noV 3 1 0) = true := by kernel_rfl
theorem ke93 : topB kD 232 [pk 2 [2, 1]] (noV 3 1 0) = true := by kernel_rfl
theorem ke94 : topB kD 232 [pk 2 [2, 2]] (okV) = true := by kernel_rfl
theorem ke95 : topB kD 232 [pk 3 [2, 2, 0]] (noV 3 2 0) = true := by kernel_rfl
theorem ke96 : topB kD 232 [pk 3 [2, 2, 1]] (noV 3 2 0) = true := by kernel_rfl
theorem ke97 : topB kD 232 [pk 3 [2, 2, 2]] (okV) = true := by kernel_rfl
theorem ke98 : topB kD 232 [pk 4 [2, 2, 2, 0]] (noV 4 3 0) = true := by kernel_rfl
theorem ke99 : topB kD 232 [pk 4 [2, 2, 2, 1]] (noV 4 3 0) = true := by kernel_rfl
theorem ke100 : topB kD 232 [pk 4 [2, 2, 2, 2]] (okV) = true := by kernel_rfl
theorem ke101 : topB kD 232 [pk 5 [2, 2, 2, 2, 0]] (noV 3 4 0) = true := by kernel_rfl
theorem ke102 : topB kD 232 [pk 5 [2, 2, 2, 2, 1]] (noV 3 4 0) = true := by kernel_rfl
theorem ke103 : topB kD 232 [pk 5 [2, 2, 2, 2, 2]] (okV) = true := by kernel_rfl
theorem ke104 : topB kD 159 [pk 5 [2, 2, 2, 2, 2]] (.lit (.bool false)) = true := by kernel_rfl
def bestRows : List TopRow := [
 ⟨232, [pk 1 [0]], okV⟩,
 ⟨232, [pk 2 [0, 0]], okV⟩,
 ⟨232, [pk 3 [0, 0, 0]], okV⟩,
 ⟨232, [pk 4 [0, 0, 0, 0]], okV⟩,
 ⟨232, [pk 5 [0, 0, 0, 0, 0]], okV⟩,
 ⟨159, [pk 5 [0, 0, 0, 0, 0]], .lit (.bool false)⟩,
 ⟨232, [pk 5 [0, 0, 0, 0, 1]], okV⟩,
 ⟨159, [pk 5 [0, 0, 0, 0, 1]], .lit (.bool false)⟩,
 ⟨232, [pk 5 [0, 0, 0, 0, 2]], okV⟩,
 ⟨159, [pk 5 [0, 0, 0, 0, 2]], .lit (.bool false)⟩,
 ⟨232, [pk 4 [0, 0, 0, 1]], noV 3 1 3⟩,
 ⟨232, [pk 4 [0, 0, 0, 2]], noV 3 1 3⟩,
 ⟨232, [pk 3 [0, 0, 1]], okV⟩,
 ⟨232, [pk 4 [0, 0, 1, 0]], okV⟩,
 ⟨232, [pk 5 [0, 0, 1, 0, 0]], noV 3 4 2⟩,
 ⟨232, [pk 5 [0, 0, 1, 0, 1]], okV⟩,
 ⟨159, [pk 5 [0, 0, 1, 0, 1]], .lit (.bool false)⟩,
 ⟨232, [pk 5 [0, 0, 1, 0, 2]], okV⟩,
 ⟨159, [pk 5 [0, 0, 1, 0, 2]], .lit (.bool true)⟩,
 ⟨232, [pk 4 [0, 0, 1, 1]], noV 3 1 3⟩,
 ⟨232, [pk 4 [0, 0, 1, 2]], noV 3 1 3⟩,
 ⟨232, [pk 3 [0, 0, 2]], okV⟩,
 ⟨232, [pk 4 [0, 0, 2, 0]], okV⟩,
 ⟨232, [pk 5 [0, 0, 2, 0, 0]], noV 3 4 2⟩,
 ⟨232, [pk 5 [0, 0, 2, 0, 1]], noV 3 4 2⟩,
 ⟨232, [pk 5 [0, 0, 2, 0, 2]], okV⟩,
 ⟨159, [pk 5 [0, 0, 2, 0, 2]], .lit (.bool false)⟩,
 ⟨232, [pk 4 [0, 0, 2, 1]], noV 3 1 3⟩,
 ⟨232, [pk 4 [0, 0, 2, 2]], noV 3 1 3⟩,
 ⟨232, [pk 2 [0, 1]], okV⟩,
 ⟨232, [pk 3 [0, 1, 0]], noV 4 2 1⟩,
 ⟨232, [pk 3 [0, 1, 1]], okV⟩,
 ⟨232, [pk 4 [0, 1, 1, 0]], noV 4 3 1⟩,
 ⟨232, [pk 4 [0, 1, 1, 1]], okV⟩,
 ⟨232, [pk 5 [0, 1, 1, 1, 0]], noV 3 4 1⟩,
 ⟨232, [pk 5 [0, 1, 1, 1, 1]], okV⟩,
 ⟨159, [pk 5 [0, 1, 1, 1, 1]], .lit (.bool false)⟩,
 ⟨232, [pk 5 [0, 1, 1, 1, 2]], okV⟩,
 ⟨159, [pk 5 [0, 1, 1, 1, 2]], .lit (.bool true)⟩,
 ⟨232, [pk 4 [0, 1, 1, 2]], noV 3 1 3⟩,
 ⟨232, [pk 3 [0, 1, 2]], okV⟩,
 ⟨232, [pk 4 [0, 1, 2, 0]], noV 4 3 1⟩,
 ⟨232, [pk 4 [0, 1, 2, 1]], okV⟩,
 ⟨232, [pk 5 [0, 1, 2, 1, 0]], noV 3 4 1⟩,
 ⟨232, [pk 5 [0, 1, 2, 1, 1]], noV 3 4 2⟩,
 ⟨232, [pk 5 [0, 1, 2, 1, 2]], okV⟩,
 ⟨159, [pk 5 [0, 1, 2, 1, 2]], .lit (.bool false)⟩,
 ⟨232, [pk 4 [0, 1, 2, 2]], noV 3 1 3⟩,
 ⟨232, [pk 2 [0, 2]], okV⟩,
 ⟨232, [pk 3 [0, 2, 0]], noV 4 2 1⟩,
 ⟨232, [pk 3 [0, 2, 1]], noV 4 2 1⟩,
 ⟨232, [pk 3 [0, 2, 2]], okV⟩,
 ⟨232, [pk 4 [0, 2, 2, 0]], noV 4 3 1⟩,
 ⟨232, [pk 4 [0, 2, 2, 1]], noV 4 3 1⟩,
 ⟨232, [pk 4 [0, 2, 2, 2]], okV⟩,
 ⟨232, [pk 5 [0, 2, 2, 2, 0]], noV 3 4 1⟩,
 ⟨232, [pk 5 [0, 2, 2, 2, 1]], noV 3 4 1⟩,
 ⟨232, [pk 5 [0, 2, 2, 2, 2]], okV⟩,
 ⟨159, [pk 5 [0, 2, 2, 2, 2]], .lit (.bool false)⟩,
 ⟨232, [pk 1 [1]], okV⟩,
 ⟨232, [pk 2 [1, 0]], noV 3 1 0⟩,
 ⟨232, [pk 2 [1, 1]], okV⟩,
 ⟨232, [pk 3 [1, 1, 0]], noV 3 2 0⟩,
 ⟨232, [pk 3 [1, 1, 1]], okV⟩,
 ⟨232, [pk 4 [1, 1, 1, 0]], noV 4 3 0⟩,
 ⟨232, [pk 4 [1, 1, 1, 1]], okV⟩,
 ⟨232, [pk 5 [1, 1, 1, 1, 0]], noV 3 4 0⟩,
 ⟨232, [pk 5 [1, 1, 1, 1, 1]], okV⟩,
 ⟨159, [pk 5 [1, 1, 1, 1, 1]], .lit (.bool false)⟩,
 ⟨232, [pk 5 [1, 1, 1, 1, 2]], okV⟩,
 ⟨159, [pk 5 [1, 1, 1, 1, 2]], .lit (.bool false)⟩,
 ⟨232, [pk 4 [1, 1, 1, 2]], noV 3 1 3⟩,
 ⟨232, [pk 3 [1, 1, 2]], okV⟩,
 ⟨232, [pk 4 [1, 1, 2, 0]], noV 4 3 0⟩,
 ⟨232, [pk 4 [1, 1, 2, 1]], okV⟩,
 ⟨232, [pk 5 [1, 1, 2, 1, 0]], noV 3 4 0⟩,
 ⟨232, [pk 5 [1, 1, 2, 1, 1]], noV 3 4 2⟩,
 ⟨232, [pk 5 [1, 1, 2, 1, 2]], okV⟩,
 ⟨159, [pk 5 [1, 1, 2, 1, 2]], .lit (.bool false)⟩,
 ⟨232, [pk 4 [1, 1, 2, 2]], noV 3 1 3⟩,
 ⟨232, [pk 2 [1, 2]], okV⟩,
 ⟨232, [pk 3 [1, 2, 0]], noV 3 2 0⟩,
 ⟨232, [pk 3 [1, 2, 1]], noV 4 2 1⟩,
 ⟨232, [pk 3 [1, 2, 2]], okV⟩,
 ⟨232, [pk 4 [1, 2, 2, 0]], noV 4 3 0⟩,
 ⟨232, [pk 4 [1, 2, 2, 1]], noV 4 3 1⟩,
 ⟨232, [pk 4 [1, 2, 2, 2]], okV⟩,
 ⟨232, [pk 5 [1, 2, 2, 2, 0]], noV 3 4 0⟩,
 ⟨232, [pk 5 [1, 2, 2, 2, 1]], noV 3 4 1⟩,
 ⟨232, [pk 5 [1, 2, 2, 2, 2]], okV⟩,
 ⟨159, [pk 5 [1, 2, 2, 2, 2]], .lit (.bool false)⟩,
 ⟨232, [pk 1 [2]], okV⟩,
 ⟨232, [pk 2 [2, 0]], noV 3 1 0⟩,
 ⟨232, [pk 2 [2, 1]], noV 3 1 0⟩,
 ⟨232, [pk 2 [2, 2]], okV⟩,
 ⟨232, [pk 3 [2, 2, 0]], noV 3 2 0⟩,
 ⟨232, [pk 3 [2, 2, 1]], noV 3 2 0⟩,
 ⟨232, [pk 3 [2, 2, 2]], okV⟩,
 ⟨232, [pk 4 [2, 2, 2, 0]], noV 4 3 0⟩,
 ⟨232, [pk 4 [2, 2, 2, 1]], noV 4 3 0⟩,
 ⟨232, [pk 4 [2, 2, 2, 2]], okV⟩,
 ⟨232, [pk 5 [2, 2, 2, 2, 0]], noV 3 4 0⟩,
 ⟨232, [pk 5 [2, 2, 2, 2, 1]], noV 3 4 0⟩,
 ⟨232, [pk 5 [2, 2, 2, 2, 2]], okV⟩,
 ⟨159, [pk 5 [2, 2, 2, 2, 2]], .lit (.bool false)⟩]
theorem bestRows_right : RowsRight bestRows :=
 .cons kD_right ke0 (.cons kD_right ke1 (.cons kD_right ke2 (.cons kD_right ke3 (.cons kD_right ke4 (.cons kD_right ke5 (.cons kD_right ke6 (.cons kD_right ke7 (.cons kD_right ke8 (.cons kD_right ke9 (.cons kD_right ke10 (.cons kD_right ke11 (.cons kD_right ke12 (.cons kD_right ke13 (.cons kD_right ke14 (.cons kD_right ke15 (.cons kD_right ke16 (.cons kD_right ke17 (.cons kD_right ke18 (.cons kD_right ke19 (.cons kD_right ke20 (.cons kD_right ke21 (.cons kD_right ke22 (.cons kD_right ke23 (.cons kD_right ke24 (.cons kD_right ke25 (.cons kD_right ke26 (.cons kD_right ke27 (.cons kD_right ke28 (.cons kD_right ke29 (.cons kD_right ke30 (.cons kD_right ke31 (.cons kD_right ke32 (.cons kD_right ke33 (.cons kD_right ke34 (.cons kD_right ke35 (.cons kD_right ke36 (.cons kD_right ke37 (.cons kD_right ke38 (.cons kD_right ke39 (.cons kD_right ke40 (.cons kD_right ke41 (.cons kD_right ke42 (.cons kD_right ke43 (.cons kD_right ke44 (.cons kD_right ke45 (.cons kD_right ke46 (.cons kD_right ke47 (.cons kD_right ke48 (.cons kD_right ke49 (.cons kD_right ke50 (.cons kD_right ke51 (.cons kD_right ke52 (.cons kD_right ke53 (.cons kD_right ke54 (.cons kD_right ke55 (.cons kD_right ke56 (.cons kD_right ke57 (.cons kD_right ke58 (.cons kD_right ke59 (.cons kD_right ke60 (.cons kD_right ke61 (.cons kD_right ke62 (.cons kD_right ke63 (.cons kD_right ke64 (.cons kD_right ke65 (.cons kD_right ke66 (.cons kD_right ke67 (.cons kD_right ke68 (.cons kD_right ke69 (.cons kD_right ke70 (.cons kD_right ke71 (.cons kD_right ke72 (.cons kD_right ke73 (.cons kD_right ke74 (.cons kD_right ke75 (.cons kD_right ke76 (.cons kD_right ke77 (.cons kD_right ke78 (.cons kD_right ke79 (.cons kD_right ke80 (.cons kD_right ke81 (.cons kD_right ke82 (.cons kD_right ke83 (.cons kD_right ke84 (.cons kD_right ke85 (.cons kD_right ke86 (.cons kD_right ke87 (.cons kD_right ke88 (.cons kD_right ke89 (.cons kD_right ke90 (.cons kD_right ke91 (.cons kD_right ke92 (.cons kD_right ke93 (.cons kD_right ke94 (.cons kD_right ke95 (.cons kD_right ke96 (.cons kD_right ke97 (.cons kD_right ke98 (.cons kD_right ke99 (.cons kD_right ke100 (.cons kD_right ke101 (.cons kD_right ke102 (.cons kD_right ke103 (.cons kD_right ke104 .nil))))))))))))))))))))))))))))))))))))))))))))))))))))))))))))))))))))))))))))))))))))))))))))))))))))))))
noncomputable def kQ : Know := ⟨fun f => Nat.beq f 123, kD.alone, (toldK bestRows).told⟩
theorem kQ_right : kQ.Right Tryz.prog := toldK_right bestRows_right
theorem kr25 : topB kQ 98 ([kv5]) (.tup [(lu [0, 0, 1, 0, 2]), n' 3, n' 0]) = true := by kernel_rfl
end Go.Vm

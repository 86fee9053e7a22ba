/-
  Texts of the proof, part 18: the machine, contracts of functions, plain laws. (Own work.)
-/
import Derived.Test.YteefbiehcfmoeaaGreatDoorG17DalangParses
import Derived.Test.YteefbiehcfmoeaaGreatDoorG14DalangParses
import Derived.ChangeArms

namespace Go.Vm
open Go.Proofs Go.ChangeShapes Go.WideShapes Go.RowKit
theorem RdC.string {P : Program} {w : World} {t : TypeId} (ht : P.underlying t = some .string) : RdC P w t (fun s => [sA s]) (fun _ => True) := by
 intro H enc base spare held fuel cs x h
 obtain ⟨s, rfl, _⟩ := DataW.trod_string ht h
 exact ⟨s, by simp only [VRels, sA, VRel, and_true], trivial⟩
section
variable {H : Type} {enc : TypeId × Value → H} {w : World} {r : Reach} {b0 base : Nat} {sp : Nat → Bool} {held : Bool} {v : Value} {d : DataW H} {ps : List MemPlace}
set_option maxRecDepth 100000 in
theorem arg_string (hok : Value.okWide Tryz.prog w r b0 9 v) (hd : DataW.Trod enc Tryz.prog w base sp held 9 v d ps) : ∃ a, @VRel (allOut w) (sit0 w) (sA a) v ∧ True := (RdC.string Tryz.underlying9).cell (okWide_cell (.inr (.inr (.inr Tryz.underlying9))) hok) hd
end
end Go.Vm

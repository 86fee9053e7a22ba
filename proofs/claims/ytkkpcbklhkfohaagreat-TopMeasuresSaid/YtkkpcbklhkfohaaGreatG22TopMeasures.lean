/-
  Texts of the proof, part 22: the machine, contracts of functions, plain laws. (Own work.)
-/
import Derived.Test.YtkkpcbklhkfohaaGreatG21TopMeasures
import Derived.Test.YtkkpcbklhkfohaaGreatG15TopMeasures

namespace Go.Vm
open Go.Proofs Go.ChangeShapes Go.WideShapes Go.RowKit
section
variable {w : World}
theorem rd_lists : RdC Tryz.prog w 38 (fun l => [eLists l]) (fun l => (∀ x ∈ l, IntsOk x) ∧ l.length ≤ maxLen) :=
 (RdC.slice (e := 30) (n := 1) Tryz.underlying38 (by kernel_rfl) (by omega) (fun _ => rfl) rd_ints).as id (fun l _ => by rw [flat_one]; rfl) (fun _ h => h)
end
section
variable {H : Type} {enc : TypeId × Value → H} {w : World} {r : Reach} {b0 base : Nat} {sp : Nat → Bool} {held : Bool} {v : Value} {d : DataW H} {ps : List MemPlace}
set_option maxRecDepth 100000 in
theorem arg_lists (hok : Value.okWide Tryz.prog w r b0 38 v) (hd : DataW.Trod enc Tryz.prog w base sp held 38 v d ps) : ∃ a, @VRel (allOut w) (sit0 w) (eLists a) v ∧ ((∀ x ∈ a, IntsOk x) ∧ a.length ≤ maxLen) := rd_lists.cell (okWide_cell (.inl ⟨_, Tryz.underlying38⟩) hok) hd
end
end Go.Vm

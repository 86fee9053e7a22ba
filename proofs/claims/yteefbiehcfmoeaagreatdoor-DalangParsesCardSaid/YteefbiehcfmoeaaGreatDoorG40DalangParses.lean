/-
  Texts of the proof, part 40: the machine, contracts of functions, plain laws. (Own work.)
-/
import Derived.Test.YteefbiehcfmoeaaGreatDoorG17DalangParses
import Derived.Test.YteefbiehcfmoeaaGreatDoorG18DalangParses
import Derived.Test.YteefbiehcfmoeaaGreatDoorG21DalangParses
import Derived.Lib.LaidU8
import Derived.Test.YteefbiehcfmoeaaGreatDoorRows

namespace Go.Vm
open Go.Proofs Go.ChangeShapes Go.WideShapes Go.RowKit Go.Lib
def powL : List Int := [1, 10, 100, 1000, 10000, 100000, 1000000, 10000000, 100000000, 1000000000, 10000000000, 100000000000, 1000000000000, 10000000000000, 100000000000000, 1000000000000000, 10000000000000000, 100000000000000000, 1000000000000000000, 10000000000000000000]
set_option maxRecDepth 100000 in
theorem tab_of_laid {W : World} {l : List (String × DataW Unit)} (h : laidMet Tryz.prog l W) (hm : ("internal/strconv.uint64pow10", YteefbiehcfmoeaaGreatDoor.Rows.laid_internal_strconv_uint64pow10) ∈ l) : TabW W := by
 obtain ⟨g, t, cs, fuel, p, h1, h2, h3, h4⟩ := Go.Lib.laidMet.reads h hm
 obtain rfl : g = 1 := Option.some.inj (h1.symm.trans (show Tryz.prog.globalNamed "internal/strconv.uint64pow10" = some 1 by kernel_rfl))
 obtain rfl : t = 412 := Option.some.inj (h2.symm.trans (show (Tryz.prog.globals[1]?).map (·.type) = some 412 by kernel_rfl))
 have hc : cs.toList = powL.map fun z => Value.int .u64 z := cells_of_tab (n := 20) (e := 394) (by kernel_rfl) (by kernel_rfl) (by kernel_rfl) (by kernel_rfl) h4
 intro N C e
 cases e
 unfold World.var? at h3
 rw [show Tryz.prog.globalNamed "internal/strconv.uint64pow10" = some 1 by kernel_rfl] at h3
 rw [Option.bind_some] at h3
 split at h3
 ·rename_i c u f hw
  cases h3
  refine ⟨u, f, hw.trans ?_⟩
  have e : cs = (powL.map fun z => Value.int .u64 z).toArray := by rw [← hc]
  rw [e]
  rfl
 ·cases h3
section
variable {w : World}
end
section
variable {H : Type} {enc : TypeId × Value → H} {w : World} {r : Reach} {b0 base : Nat} {sp : Nat → Bool} {held : Bool} {v : Value} {d : DataW H} {ps : List MemPlace}
set_option maxRecDepth 100000 in
theorem arg_line (hok : Value.okWide Tryz.prog w r b0 9 v) (hd : DataW.Trod enc Tryz.prog w base sp held 9 v d ps) : ∃ a : List UInt8, @VRel (allOut w) (sit0 w) (sA (bT a)) v ∧ True := by
 obtain ⟨a, h, _⟩ := arg_string hok hd
 refine ⟨a.data.toList, ?_, trivial⟩
 exact h
end
end Go.Vm

/-
  Texts of the proof, part 19: the machine, contracts of functions, plain laws. (Own work.)
-/
import Derived.Test.YteefbiehcfmoeaaGreatDoorG12DalangParses
import Derived.Test.YteefbiehcfmoeaaGreatDoorG06DalangParses

namespace Go.Vm
open Go.Proofs
def strsOf : List AV → Option (List ByteArray)
 | [] => some []
 | .lit (.string s) :: r => (strsOf r).map (s :: ·)
 | _ => none
theorem strsOf_sound [Outer] {S : Sit} {b : Nat} : ∀ {cells : List AV} {xs : List ByteArray} {o : Nat}, strsOf cells = some xs → VRow S b o cells → ∀ (j : Nat) x, xs[j]? = some x → S.w.cell? ⟨b, o + j, none⟩ = some (.string x)
 | [], xs, o, h, _, j, x, hj => by simp only [strsOf, Option.some.injEq] at h; subst h; simp at hj
 | a :: cells, xs, o, h, hr, j, x, hj => by
  unfold strsOf at h
  split at h
  ·rename_i heq; cases heq
  ·rename_i s r heq
   cases heq
   obtain ⟨ys, hys, rfl⟩ := map_some h
   simp only [VRow, VRel] at hr
   obtain ⟨⟨c, hc, rfl⟩, hr2⟩ := hr
   cases j with
   | zero => simp at hj; subst hj; exact hc
   | succ j =>
    have := strsOf_sound hys hr2 j x (by simpa using hj)
    rw [show o + (j + 1) = o + 1 + j by omega]; exact this
  ·cases h
end Go.Vm

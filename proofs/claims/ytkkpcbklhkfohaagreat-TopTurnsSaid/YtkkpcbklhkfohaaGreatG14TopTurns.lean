/-
  Texts of the proof, part 14: the machine, contracts of functions, plain laws. (Own work.)
-/
import Derived.Test.YtkkpcbklhkfohaaGreatG13TopTurns

namespace Go.Vm
open Go.Proofs
theorem top39 : topB kK 39 ([]) (bV) = true := by kernel_rfl
theorem top41 : topB kK 41 ([]) (cV) = true := by kernel_rfl
theorem top19 : topB kK 19 ([bV, n' 0, n' 1]) (.tup [lu [0, 1, 0], n' 0]) = true := by kernel_rfl
theorem top40 : topB kEase 40 ([cV]) (.tup [lu [0, 1, 1, 1, 2], n' 5, n' 0]) = true := by kernel_rfl
def knownRows : List TopRow := [
 ⟨39, [], bV⟩,
 ⟨41, [], cV⟩,
 ⟨19, [bV, n' 0, n' 1], .tup [lu [0, 1, 0], n' 0]⟩,
 ⟨40, [cV], .tup [lu [0, 1, 1, 1, 2], n' 5, n' 0]⟩]
theorem knownRows_right : RowsRight knownRows := .cons kK_right top39 (.cons kK_right top41 (.cons kK_right top19 (.cons kEase_right top40 .nil)))
noncomputable def kTold2 (f : FuncId) : Option (CallT → CallT) :=
 bif knownRows.any (fun r => Nat.beq r.f f) then some fun _ => toldRows knownRows else kTold f
noncomputable def kKnown : Know := ⟨kK.muts, kK.alone, kTold2⟩
theorem kKnown_right : kKnown.Right Tryz.prog := by
 intro f T h call hc args t n
 have h' : kTold2 f = some T := h
 unfold kTold2 at h'
 cases hb : knownRows.any (fun r => Nat.beq r.f f) with
 | true =>
  rw [hb, cond_true] at h'
  cases h'
  exact toldRows_right knownRows_right f args t n
 | false =>
  rw [hb, cond_false] at h'
  exact kTold_right h' hc args t n
theorem topKnown : topB kKnown 10 [] (.lit (.bool true)) = true := by kernel_rfl
theorem known_call (H : List Blk) : ACall Tryz.prog 10 [] H (.ret (.lit (.bool true))) H := top_right mixed kKnown_right topKnown H
end Go.Vm

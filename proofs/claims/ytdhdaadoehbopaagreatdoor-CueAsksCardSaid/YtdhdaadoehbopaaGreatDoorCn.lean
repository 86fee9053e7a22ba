/-
  Contracts of functions of packages kelirlaw04, kelirref04, kelirref02, cue and slices, for books, evenings and lists as told at each, in every heap. Conditions: at each theorem. (Never; lists of cues; Danger, Fence and Bad of the specification.)
-/
import Derived.Test.YtdhdaadoehbopaaGreatDoorCm

namespace Go.Vm
open Go.Proofs
theorem wk_lists1 (H : List Blk) : WeakH H (.sl 1 [.lit (.slice none 0 0)] .full) (eLists [[]]) := by
 have h1 : WeakH H (.sl 1 [.lit (.slice none 0 0)] .full) (.sl 1 [eInts []] .full) := wk_sl (.cons (fun H => wk_nil H) .nil)
 exact fun O ι w c h => WeakH.tail _ _ _ H O ι w c (h1 O ι w c h)
theorem row_one {M : List (List Int)} {x : List Int} : some (Blk.row (M.length + 1)) = some (Blk.row (M ++ [x]).length) := by
 rw [List.length_append]
 rfl
theorem wk_rowS {t : Trie Blk} {M : List (List Int)} {x : List Int} {y : AV} {id : Nat} (h : ∀ H, WeakH H y (eInts x)) :
  Weak t (.sl (M.length + 1) (M.map eInts ++ [y]) (.own id (M.length + 1) 1)) (rowL (M ++ [x]) id) := fun _ H _ => by
 unfold rowL
 rw [List.length_append, List.map_append]
 exact wk_sl (Weaks.snoc h _)
end Go.Vm

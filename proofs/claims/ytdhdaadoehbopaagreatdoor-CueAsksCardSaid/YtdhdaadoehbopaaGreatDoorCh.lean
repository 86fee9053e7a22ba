/-
  Contracts of functions of packages kelirlaw04, kelirref04, kelirref02, cue and slices, for books, evenings and lists as told at each, in every heap. Conditions: at each theorem. (What surely is played; lists of lists.)
-/
import Derived.Test.YtdhdaadoehbopaaGreatDoorCb
import Derived.Test.YtdhdaadoehbopaaGreatDoorVc

namespace Go.Vm
open Go.Proofs
theorem remL_mem {vs : List Vers} {evs : List Evening} : ∀ {r : Nat} {j : Int}, j ∈ remL vs evs r → 0 ≤ j ∧ j < r
 | 0, _, h => by cases h
 | r + 1, j, h => by
  unfold remL at h
  split at h
  ·rcases List.mem_append.1 h with h | h
   ·have := remL_mem h; omega
   ·rw [List.mem_singleton] at h; omega
  ·have := remL_mem h; omega
end Go.Vm

namespace Go.Vm
open Go.Proofs
def eLists (l : List (List Int)) : AV := .sl l.length (l.map eInts) .unk
theorem under_eLists (n : Nat) (l : List (List Int)) : (eLists l).under n := by
 unfold eLists
 simp only [AV.under]
 exact ⟨unders_map (under_eInts n) l, trivial⟩
theorem jx_lists {l : List (List Int)} {tl : Tail} {i : Int} {r : Nat} {x : List Int} (hi : i = r) (h : l[r]? = some x) : indexOp Tryz.prog 48 (.sl l.length (l.map eInts) tl) (.lit (.int .i64 i)) = some (.eptr [eInts x]) := by
 obtain ⟨h1, rfl⟩ := List.getElem?_eq_some_iff.1 h
 exact ix_one (e := 25) (by kernel_rfl) (by kernel_rfl) hi h1
end Go.Vm

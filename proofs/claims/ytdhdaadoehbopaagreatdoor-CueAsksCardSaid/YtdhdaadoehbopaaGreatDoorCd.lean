/-
  Contracts of functions of packages kelirlaw04, kelirref04, kelirref02, cue and slices, for books, evenings and lists as told at each, in every heap. Conditions: at each theorem. (Longer lists; counts; plain mathematics on lists of cues.)
-/
import Derived.Test.YtdhdaadoehbopaaGreatDoorCh
import Derived.Test.YtdhdaadoehbopaaGreatDoorVc
import Derived.Test.YtdhdaadoehbopaaGreatDoorCj

namespace Go.Vm
open Go.Proofs
def rowL (L : List (List Int)) (id : Nat) : AV := .sl L.length (L.map eInts) (.own id L.length 1)
theorem under_rowL (n : Nat) {id : Nat} (h : id < n) (L : List (List Int)) : (rowL L id).under n := by
 unfold rowL
 simp only [AV.under]
 exact ⟨unders_map (under_eInts n) L, h⟩
theorem app_list {g : Nat → Option Blk} {n len id gen : Nat} {cells : List AV} {x : AV} (h1 : cells.length = len) (h2 : len < 2097152) (hg : g id = some (.row gen)) (ho : x.one = true) :
  appT Tryz.prog false g n 48 48 (.sl len cells (.own id gen 1)) (.sl 1 [x] .full) = some (.sl (len + 1) (cells ++ [x]) (.own id (gen + 1) 1), .set id (.row (gen + 1))) :=
 appT_own (e := 25) (bytes := 24) (z := .slice none 0 0) (by kernel_rfl) (by kernel_rfl) (by kernel_rfl) (by kernel_rfl) (by kernel_rfl) rfl (by omega) (by omega) (by omega) hg (by simp [ho])
end Go.Vm

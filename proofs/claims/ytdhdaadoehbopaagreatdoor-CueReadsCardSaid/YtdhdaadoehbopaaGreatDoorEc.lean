/-
  Contracts of functions of the program that this claim reaches; no statement of the program is proved here. Conditions: none. (Texts of books: Print and Read together.)
-/
import Derived.Test.YtdhdaadoehbopaaGreatDoorEb
import Derived.Test.YtdhdaadoehbopaaGreatDoorEa
import Derived.Test.YtdhdaadoehbopaaGreatDoorVk

namespace Go.Vm
open Go.Proofs Go.RowKit
theorem c_sameLow {b : Book} (hb : LowB b) (H : List Blk) : ACall Tryz.prog 85 [eBook b, eBook b] H (.ret (.lit (.bool true))) H := by
 have h1 := hb.n
 have h2 := rowsV_length b.vs
 have h3 : (rowsB b).length = (b.vs.flatMap rowsV).length + 1 := rfl
 refine c_sameBooks (by omega) (fun v hv => ⟨?_, fun s hs => ?_⟩) H
 ·have e : (rowsV v).length = v.length + 1 := by
   show (v.map lineS1).length + 1 = _
   rw [List.length_map]
  obtain ⟨s, t, he⟩ := List.append_of_mem hv
  rw [he, List.flatMap_append, List.flatMap_cons, List.length_append, List.length_append] at h3
  omega
 ·have := (hb.m v hv s hs).1
  omega
end Go.Vm

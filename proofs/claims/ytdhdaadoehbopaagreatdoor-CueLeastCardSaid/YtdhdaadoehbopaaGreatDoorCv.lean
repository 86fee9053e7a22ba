/-
  Tell, by the document's table, on which this claim rests; no statement of the program is proved here. Conditions: none.
-/
import Derived.Test.YtdhdaadoehbopaaGreatDoorCp
import Derived.Test.YtdhdaadoehbopaaGreatDoorCf
import Derived.Test.YtdhdaadoehbopaaGreatDoorVc

namespace Go.Vm
open Go.Proofs
theorem c_tellD {b : Book} (hl : BLen b) (hB : BOk b) {i j : Int} (hi : inI i 0 (b.vs.length - 1)) (hj : inI j 0 (b.vs.length - 1)) {v w : Vers} (hvi : b.vs[i.toNat]? = some v) (hvj : b.vs[j.toNat]? = some w) (H : List Blk) :
  ACall Tryz.prog 50 [eBook b, n' i, n' j] H (.ret (tellV (tellO (dT v w b.cues.toNat 0 0)))) H := by
 obtain ⟨hvo, hv0⟩ := (hB.2 v (List.mem_of_getElem? hvi)).vers
 obtain ⟨hwo, hw0⟩ := (hB.2 w (List.mem_of_getElem? hvj)).vers
 have hT := dT_told hvo hwo hv0 hw0
 have hvn := hB.1.2.2
 unfold inI at hvn
 by_cases hij : i = j
 ·subst hij
  obtain rfl := Option.some.inj (hvi.symm.trans hvj)
  have e : tellO (dT v v b.cues.toNat 0 0) = none := by
   cases h : tellO (dT v v b.cues.toNat 0 0) with
   | none => rfl
   | some l => exact absurd rfl (hT.yes l h).2.1
  rw [e]
  exact c_tell_same hl hB hi H
 ·obtain ⟨o, hF, hc⟩ := c_tell hl hB hi hj hij
  have h := hF.told (fun v hv => (hB.2 v hv).vers.1) (fun v hv => (hB.2 v hv).vers.2) (by omega) hi hj hij hvi hvj
  rw [hT.unique h]
  exact hc H
end Go.Vm

/-
  Contracts of functions of packages kelirlaw04, kelirref04, kelirref02, cue and slices, for books, evenings and lists as told at each, in every heap. Conditions: at each theorem. (What is played, with the errors.)
-/
import Derived.Test.YtdhdaadoehbopaaGreatDoorCa
import Derived.Test.YtdhdaadoehbopaaGreatDoorVk

namespace Go.Vm
open Go.Proofs
set_option maxRecDepth 100000 in
theorem c_refPlays {v : Vers} {k : Nat} {cues : List Int} (hv : VersOk v k) (hs : 0 < v.length) (hc : CuesOk k cues) (hL : cues.length < 1000000) (H : List Blk) :
  ACall Tryz.prog 81 [eVersion v, eInts cues] H (.ret (eInts (plays v 0 cues))) H := by
 refine fn_rule (m := false) (fn := Tryz.f81) (c := (Tryz.f81.body).getD .skip) mixed (by kernel_rfl) (by kernel_rfl) (of_decide_eq_true (by kernel_rfl)) ?_ ?_ ?_ H
 ·exact ⟨under_eVersion 0 _, under_eInts 0 _, trivial⟩
 ·exact under_eInts 0 _
 ·refine CallG.pure _ (c_from hv hs hc hL) ?_
  refine ⟨.inl rfl, FinG.mk _ rfl rfl ?_⟩
  exact freeze_eInts _ _
end Go.Vm

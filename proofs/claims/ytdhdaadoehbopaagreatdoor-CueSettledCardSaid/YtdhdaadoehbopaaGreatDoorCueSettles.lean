/-
  The law CueSettles of package kelirlaw04 returns true for every input, and each argument reads afterwards as it read before: the tied card. Conditions: what the row lists of package-level variables, tied to the text of the program.
-/
import Derived.Test.YtdhdaadoehbopaaGreatDoorCw
import Derived.Test.YtdhdaadoehbopaaGreatDoorCj
import Derived.Test.YtdhdaadoehbopaaGreatDoorVk

namespace Go.Vm
open Go.Proofs
set_option maxRecDepth 100000 in
theorem c_Settle_none {b : Book} (hl : BLen b) (hB : BOk b) {evs : List Evening} (hE : EvsOk b evs) (hne : remL b.vs evs b.vs.length = []) (H : List Blk) : ACall Tryz.prog 53 [eBook b, eEvenings evs] H (.ret (nilS2 7)) H := by
 have h1c := hB.1.1.1
 have hN : EvOk b ([], []) := ⟨⟨⟨by simp, fun c h => by cases h⟩, ⟨fun c h => (by cases h), (by simp)⟩⟩, rfl⟩
 refine fn_rule (m := false) (fn := Tryz.f53) (c := (Tryz.f53.body).getD .skip) mixed (by kernel_rfl) (by kernel_rfl) (of_decide_eq_true (by kernel_rfl)) ?_ ?_ ?_ H
 ·exact ⟨under_eBook 0 _, under_eEvenings 0 _, trivial⟩
 ·exact under_tup2 trivial trivial
 ·refine CallG.weak _ (.cons (fun H => WeakH.refl _ H) (.cons (fun H => WeakH.refl _ H) (.cons (fun H => WeakH.refl _ H) (.cons wk_ev0 .nil)))) (c_left_none hl hB hE hN (by rw [remL_now]; exact hne)) ?_
  refine If.mk (fun h => absurd h (by decide)) (fun _ => ?_)
  refine ifY ?_
  exact ⟨.inl rfl, FinG.mk _ rfl rfl rfl⟩
end Go.Vm

/-
  It is proved that TopMeasures returns true for all sizes and leaves them as they were: hides as versions, the fewest measures that are enough are the first cues that settle which version it is. No condition beyond the statement's own.
-/
import Derived.Test.YtkkpcbklhkfohaaGreatG19TopMeasures
import Derived.Test.YtkkpcbklhkfohaaGreatG21TopMeasures
import Derived.Test.YtkkpcbklhkfohaaGreatG22TopMeasures
import Derived.Test.YtkkpcbklhkfohaaGreatRows
import Derived.SevenTiedAt

namespace Go.Proofs.YtkkpcbklhkfohaaGreat
open Go.Vm Go.ChangeShapes Go.WideShapes Go.ChangeAt Go.RowKit
set_option maxHeartbeats 8000000 in
set_option maxRecDepth 100000 in
theorem topMeasures_lifted (os : Os) (started : os.Started) (H : Type) (enc : TypeId × Value → H) :
  ReturnsInHanded {} Tryz.checked os 4 .any (fun w args => (Rows.topMeasuresSpec.pre enc Tryz.prog Tryz.f4 Rows.topMeasuresRow.domain false w args ∧ True) ∧ sizedMet enc Tryz.prog Tryz.f4 (OpenSpec.ofChange Rows.topMeasuresSpec) false w args)
   (Rows.topMeasuresSpec.post enc Tryz.prog Tryz.f4 false true false false) := by
 refine returnsInHanded_of_change_and (C := Tryz.checked) (X := fun _ _ => True) (fun _ _ _ _ _ => trivial) own started (by kernel_rfl) Tryz.func4
  (ChangeSpec.witness_shaped (enc := enc) (C := Tryz.checked) (os := os) (X := fun _ _ => True) false (World.laidAll Tryz.prog os []) #[.slice none 0 0] 8 (World.laidAll_os _ _ _)
   (World.shaped_of_ZipB (by kernel_rfl) (by kernel_rfl)) (by kernel_rfl) (by kernel_rfl) (by kernel_rfl)
   trivial) ?_
 intro W base args ds gs before hval0 hW _ _ _ _
 have hval : ∀ (j : Nat) t v, Tryz.f4.params[j]? = some t → args[j]? = some v → Value.okWide Tryz.prog W .any base t v := hval0
 have hW' := hW
 obtain ⟨p, q, hA0, hV, rfl, _, _⟩ := hW
 have hA : DataW.TrodAll enc Tryz.prog W 0 (fun _ => true) true Tryz.f4.params.toList args.toList ds p := hA0
 rw [Tryz.params4] at hA hval
 obtain ⟨v0, d0, rfl, rfl, h0⟩ := trodAll_one hA
 obtain ⟨rfl, rfl⟩ := trodVars_none hV
 obtain ⟨x0, r0, _⟩ := arg_lists (hval 0 38 v0 rfl rfl) h0
 refine (law_calls (c_topMeasures x0) (by simp only [VRels, and_true]; exact r0)).mono ?_
 rintro e W' ⟨rfl, hk⟩
 exact ⟨_, rfl, law_post laidOut (by kernel_rfl) (by kernel_rfl) (by kernel_rfl) hW' rfl rfl hk⟩
theorem topMeasures_named : Tryz.pinned.checked.prog.funcNamed Rows.topMeasuresRow.func = some 4 := by kernel_rfl
theorem topMeasures_inst : Tryz.f4.isInstance Tryz.pinned.checked.prog Rows.topMeasuresRow.origin Rows.topMeasuresRow.targs := of_decide_eq_true (by kernel_rfl)
theorem topMeasures_wrap : Tryz.f4.isWrapper Tryz.pinned.checked.prog Rows.topMeasuresRow.wrapper Rows.topMeasuresRow.mainSum := by unfold Func.isWrapper; first | (rw [if_pos (by decide +kernel)]; kernel_rfl) | (rw [if_neg (by decide +kernel)]; exact ⟨rfl, rfl⟩)
set_option maxHeartbeats 8000000 in
theorem topMeasures_closed : joinedFacts Tryz.pinned.checked.prog 4 Tryz.f4 Rows.topMeasuresSpec Rows.topMeasuresRow = true := by
 unfold joinedFacts
 refine and_t (and_t (and_t (and_t (and_t (and_t (and_t (and_t (and_t (and_t (and_t (and_t (and_t (and_t (and_t (and_t (and_t (and_t (and_t (and_t (and_t (and_t (and_t (and_t (and_t (and_t (and_t (and_t (and_t (and_t (and_t ?_ ?_) ?_) ?_) ?_) ?_) ?_) ?_) ?_) ?_) ?_) ?_) ?_) ?_) ?_) ?_) ?_) ?_) ?_) ?_) ?_) ?_) ?_) ?_) ?_) ?_) ?_) ?_) ?_) ?_) ?_) ?_
 ·as_aux_lemma => kernel_rfl
 ·as_aux_lemma => kernel_rfl
 ·as_aux_lemma => kernel_rfl
 ·as_aux_lemma => kernel_rfl
 ·as_aux_lemma => kernel_rfl
 ·as_aux_lemma => kernel_rfl
 ·as_aux_lemma => kernel_rfl
 ·as_aux_lemma => kernel_rfl
 ·as_aux_lemma => kernel_rfl
 ·as_aux_lemma => kernel_rfl
 ·as_aux_lemma => kernel_rfl
 ·as_aux_lemma => kernel_rfl
 ·as_aux_lemma => kernel_rfl
 ·as_aux_lemma => kernel_rfl
 ·as_aux_lemma => kernel_rfl
 ·as_aux_lemma => kernel_rfl
 ·as_aux_lemma => kernel_rfl
 ·as_aux_lemma => kernel_rfl
 ·as_aux_lemma => kernel_rfl
 ·as_aux_lemma => kernel_rfl
 ·as_aux_lemma => kernel_rfl
 ·as_aux_lemma => kernel_rfl
 ·as_aux_lemma => kernel_rfl
 ·as_aux_lemma => kernel_rfl
 ·as_aux_lemma => kernel_rfl
 ·as_aux_lemma => kernel_rfl
 ·as_aux_lemma => kernel_rfl
 ·as_aux_lemma => kernel_rfl
 ·as_aux_lemma => kernel_rfl
 ·as_aux_lemma => kernel_rfl
 ·as_aux_lemma => kernel_rfl
 ·as_aux_lemma => kernel_rfl
theorem topMeasures_holds : Rows.TopMeasuresSaid :=
 OpenClaim.holds_of_wide 4 Tryz.f4 rfl rfl rfl rfl rfl rfl rfl ⟨rfl, rfl, rfl, rfl, rfl⟩ rfl rfl rfl rfl rfl topMeasures_named Tryz.func4 topMeasures_closed topMeasures_inst topMeasures_wrap
  (fun os started H enc _ => by
   have e : OpenClaim.pre enc Tryz.pinned.checked.prog Tryz.f4 (OpenSpec.ofChange Rows.topMeasuresSpec) Rows.topMeasuresRow = fun w args => (Rows.topMeasuresSpec.pre enc Tryz.prog Tryz.f4 Rows.topMeasuresRow.domain false w args ∧ True) ∧ sizedMet enc Tryz.prog Tryz.f4 (OpenSpec.ofChange Rows.topMeasuresSpec) false w args := by
    funext w args
    unfold OpenClaim.pre OpenClaim.preLaid
    rw [and_true]
    rfl
   rw [e]
   exact topMeasures_lifted os started H enc)
end Go.Proofs.YtkkpcbklhkfohaaGreat

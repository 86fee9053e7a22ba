/-
  It is proved that TopChorus returns true for all arguments and leaves them as they were: what a chorus has in common. No condition beyond the statement's own.
-/
import Derived.Test.YtkkpcbklhkfohaaGreatG21TopChorus
import Derived.Test.YtkkpcbklhkfohaaGreatG20TopChorus
import Derived.Test.YtkkpcbklhkfohaaGreatRows
import Derived.SevenTiedAt

namespace Go.Proofs.YtkkpcbklhkfohaaGreat
open Go.Vm Go.ChangeShapes Go.WideShapes Go.ChangeAt Go.RowKit
set_option maxHeartbeats 8000000 in
set_option maxRecDepth 100000 in
theorem topChorus_lifted (os : Os) (started : os.Started) (H : Type) (enc : TypeId × Value → H) :
  ReturnsInHanded {} Tryz.checked os 5 .any (fun w args => (Rows.topChorusSpec.pre enc Tryz.prog Tryz.f5 Rows.topChorusRow.domain false w args ∧ True) ∧ sizedMet enc Tryz.prog Tryz.f5 (OpenSpec.ofChange Rows.topChorusSpec) false w args)
   (Rows.topChorusSpec.post enc Tryz.prog Tryz.f5 false true false false) := by
 refine returnsInHanded_of_change_and (C := Tryz.checked) (X := fun _ _ => True) (fun _ _ _ _ _ => trivial) own started (by kernel_rfl) Tryz.func5
  (ChangeSpec.witness_shaped (enc := enc) (C := Tryz.checked) (os := os) (X := fun _ _ => True) false (World.laidAll Tryz.prog os []) #[.agg #[.int .i64 0, .int .i64 0, .slice none 0 0], .slice none 0 0, .slice none 0 0] 8 (World.laidAll_os _ _ _)
   (World.shaped_of_ZipB (by kernel_rfl) (by kernel_rfl)) (by kernel_rfl) (by kernel_rfl) (by kernel_rfl)
   trivial) ?_
 intro W base args ds gs before hval0 hW _ _ _ _
 have hval : ∀ (j : Nat) t v, Tryz.f5.params[j]? = some t → args[j]? = some v → Value.okWide Tryz.prog W .any base t v := hval0
 have hW' := hW
 obtain ⟨p, q, hA0, hV, rfl, _, _⟩ := hW
 have hA : DataW.TrodAll enc Tryz.prog W 0 (fun _ => true) true Tryz.f5.params.toList args.toList ds p := hA0
 rw [Tryz.params5] at hA hval
 obtain ⟨v0, v1, v2, d0, d1, d2, p0, p1, p2, rfl, rfl, rfl, h0, h1, h2⟩ := trodAll_three hA
 obtain ⟨rfl, rfl⟩ := trodVars_none hV
 obtain ⟨x0, r0, _⟩ := arg_book (hval 0 52 v0 rfl rfl) h0
 obtain ⟨x1, r1, g1⟩ := arg_evenings (hval 1 73 v1 rfl rfl) h1
 obtain ⟨x2, r2, _⟩ := arg_ints (hval 2 30 v2 rfl rfl) h2
 refine (law_calls (c_topChorus x0 x1 g1 x2) (by simp only [VRels, and_true]; exact ⟨r0, r1, r2⟩)).mono ?_
 rintro e W' ⟨rfl, hk⟩
 exact ⟨_, rfl, law_post laidOut (by kernel_rfl) (by kernel_rfl) (by kernel_rfl) hW' rfl rfl hk⟩
theorem topChorus_named : Tryz.pinned.checked.prog.funcNamed Rows.topChorusRow.func = some 5 := by kernel_rfl
theorem topChorus_inst : Tryz.f5.isInstance Tryz.pinned.checked.prog Rows.topChorusRow.origin Rows.topChorusRow.targs := of_decide_eq_true (by kernel_rfl)
theorem topChorus_wrap : Tryz.f5.isWrapper Tryz.pinned.checked.prog Rows.topChorusRow.wrapper Rows.topChorusRow.mainSum := by unfold Func.isWrapper; first | (rw [if_pos (by decide +kernel)]; kernel_rfl) | (rw [if_neg (by decide +kernel)]; exact ⟨rfl, rfl⟩)
set_option maxHeartbeats 8000000 in
theorem topChorus_closed : joinedFacts Tryz.pinned.checked.prog 5 Tryz.f5 Rows.topChorusSpec Rows.topChorusRow = true := by
 unfold joinedFacts
 refine and_t (and_t (and_t (and_t (and_t (and_t (and_t (and_t (and_t (and_t (and_t (and_t (and_t (and_t (and_t (and_t (and_t (and_t (and_t (and_t (and_t (and_t (and_t (and_t (and_t (and_t (and_t (and_t (and_t (and_t (and_t ?_ ?_) ?_) ?_) ?_) ?_) ?_) ?_) ?_) ?_) ?_) ?_) ?_) ?_) ?_) ?_) ?_) ?_) ?_) ?_) ?_) ?_) ?_) ?_) ?_) ?_) ?_) ?_) ?_) ?_) ?_) ?_
 ·as_aux_lemma => kernel_rfl
 ·as_aux_lemma => kernel_rfl
 ·as_aux_lemma => kernel_rfl
 ·as_aux_lemma => kernel_rfl
 ·as_aux_lemma => kernel_rfl
 ·as_aux_lemma => kernel_rfl
 ·as_aux_lemma => kernel_rfl
 ·as_aux_lemma => kernel_rfl
 ·as_aux_lemma => kernel_rfl
 ·as_aux_lemma => kernel_rfl
 ·as_aux_lemma => kernel_rfl
 ·as_aux_lemma => kernel_rfl
 ·as_aux_lemma => kernel_rfl
 ·as_aux_lemma => kernel_rfl
 ·as_aux_lemma => kernel_rfl
 ·as_aux_lemma => kernel_rfl
 ·as_aux_lemma => kernel_rfl
 ·as_aux_lemma => kernel_rfl
 ·as_aux_lemma => kernel_rfl
 ·as_aux_lemma => kernel_rfl
 ·as_aux_lemma => kernel_rfl
 ·as_aux_lemma => kernel_rfl
 ·as_aux_lemma => kernel_rfl
 ·as_aux_lemma => kernel_rfl
 ·as_aux_lemma => kernel_rfl
 ·as_aux_lemma => kernel_rfl
 ·as_aux_lemma => kernel_rfl
 ·as_aux_lemma => kernel_rfl
 ·as_aux_lemma => kernel_rfl
 ·as_aux_lemma => kernel_rfl
 ·as_aux_lemma => kernel_rfl
 ·as_aux_lemma => kernel_rfl
theorem topChorus_holds : Rows.TopChorusSaid :=
 OpenClaim.holds_of_wide 5 Tryz.f5 rfl rfl rfl rfl rfl rfl rfl ⟨rfl, rfl, rfl, rfl, rfl⟩ rfl rfl rfl rfl rfl topChorus_named Tryz.func5 topChorus_closed topChorus_inst topChorus_wrap
  (fun os started H enc _ => by
   have e : OpenClaim.pre enc Tryz.pinned.checked.prog Tryz.f5 (OpenSpec.ofChange Rows.topChorusSpec) Rows.topChorusRow = fun w args => (Rows.topChorusSpec.pre enc Tryz.prog Tryz.f5 Rows.topChorusRow.domain false w args ∧ True) ∧ sizedMet enc Tryz.prog Tryz.f5 (OpenSpec.ofChange Rows.topChorusSpec) false w args := by
    funext w args
    unfold OpenClaim.pre OpenClaim.preLaid
    rw [and_true]
    rfl
   rw [e]
   exact topChorus_lifted os started H enc)
end Go.Proofs.YtkkpcbklhkfohaaGreat

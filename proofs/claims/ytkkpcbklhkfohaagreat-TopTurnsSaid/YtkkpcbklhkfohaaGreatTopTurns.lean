/-
  It is proved that TopTurns returns true for all arguments and leaves them as they were: ways as cues. No condition beyond the statement's own.
-/
import Derived.Test.YtkkpcbklhkfohaaGreatG23TopTurns
import Derived.Test.YtkkpcbklhkfohaaGreatG21TopTurns
import Derived.Test.YtkkpcbklhkfohaaGreatG22TopTurns
import Derived.Test.YtkkpcbklhkfohaaGreatRows
import Derived.SevenTiedAt

namespace Go.Proofs.YtkkpcbklhkfohaaGreat
open Go.Vm Go.ChangeShapes Go.WideShapes Go.ChangeAt Go.RowKit
set_option maxHeartbeats 8000000 in
set_option maxRecDepth 100000 in
theorem topTurns_lifted (os : Os) (started : os.Started) (H : Type) (enc : TypeId × Value → H) :
  ReturnsInHanded {} Tryz.checked os 3 .any (fun w args => (Rows.topTurnsSpec.pre enc Tryz.prog Tryz.f3 Rows.topTurnsRow.domain false w args ∧ True) ∧ sizedMet enc Tryz.prog Tryz.f3 (OpenSpec.ofChange Rows.topTurnsSpec) false w args)
   (Rows.topTurnsSpec.post enc Tryz.prog Tryz.f3 false true false false) := by
 refine returnsInHanded_of_change_and (C := Tryz.checked) (X := fun _ _ => True) (fun _ _ _ _ _ => trivial) own started (by kernel_rfl) Tryz.func3
  (ChangeSpec.witness_shaped (enc := enc) (C := Tryz.checked) (os := os) (X := fun _ _ => True) false (World.laidAll Tryz.prog os []) #[.agg #[.int .i64 0, .slice none 0 0], .agg #[.int .i64 0, .int .i64 0, .int .i64 0, .int .i64 0, .slice none 0 0, .slice none 0 0], .slice none 0 0, .slice none 0 0] 8 (World.laidAll_os _ _ _)
   (World.shaped_of_ZipB (by kernel_rfl) (by kernel_rfl)) (by kernel_rfl) (by kernel_rfl) (by kernel_rfl)
   trivial) ?_
 intro W base args ds gs before hval0 hW _ _ _ _
 have hval : ∀ (j : Nat) t v, Tryz.f3.params[j]? = some t → args[j]? = some v → Value.okWide Tryz.prog W .any base t v := hval0
 have hW' := hW
 obtain ⟨p, q, hA0, hV, rfl, _, _⟩ := hW
 have hA : DataW.TrodAll enc Tryz.prog W 0 (fun _ => true) true Tryz.f3.params.toList args.toList ds p := hA0
 rw [Tryz.params3] at hA hval
 obtain ⟨v0, v1, v2, v3, d0, d1, d2, d3, p0, p1, p2, p3, rfl, rfl, rfl, h0, h1, h2, h3⟩ := trodAll_four hA
 obtain ⟨rfl, rfl⟩ := trodVars_none hV
 obtain ⟨x0, r0, _⟩ := arg_figure (hval 0 24 v0 rfl rfl) h0
 obtain ⟨x1, r1, _⟩ := arg_stage (hval 1 32 v1 rfl rfl) h1
 obtain ⟨x2, r2, _⟩ := arg_ints (hval 2 30 v2 rfl rfl) h2
 obtain ⟨x3, r3, _⟩ := arg_ints (hval 3 30 v3 rfl rfl) h3
 refine (law_calls (c_topTurns x0 x1 x2 x3) (by simp only [VRels, and_true]; exact ⟨r0, r1, r2, r3⟩)).mono ?_
 rintro e W' ⟨rfl, hk⟩
 exact ⟨_, rfl, law_post laidOut (by kernel_rfl) (by kernel_rfl) (by kernel_rfl) hW' rfl rfl hk⟩
theorem topTurns_named : Tryz.pinned.checked.prog.funcNamed Rows.topTurnsRow.func = some 3 := by kernel_rfl
theorem topTurns_inst : Tryz.f3.isInstance Tryz.pinned.checked.prog Rows.topTurnsRow.origin Rows.topTurnsRow.targs := of_decide_eq_true (by kernel_rfl)
theorem topTurns_wrap : Tryz.f3.isWrapper Tryz.pinned.checked.prog Rows.topTurnsRow.wrapper Rows.topTurnsRow.mainSum := by unfold Func.isWrapper; first | (rw [if_pos (by decide +kernel)]; kernel_rfl) | (rw [if_neg (by decide +kernel)]; exact ⟨rfl, rfl⟩)
set_option maxHeartbeats 8000000 in
theorem topTurns_closed : joinedFacts Tryz.pinned.checked.prog 3 Tryz.f3 Rows.topTurnsSpec Rows.topTurnsRow = true := by
 unfold joinedFacts
 refine and_t (and_t (and_t (and_t (and_t (and_t (and_t (and_t (and_t (and_t (and_t (and_t (and_t (and_t (and_t (and_t (and_t (and_t (and_t (and_t (and_t (and_t (and_t (and_t (and_t (and_t (and_t (and_t (and_t (and_t (and_t ?_ ?_) ?_) ?_) ?_) ?_) ?_) ?_) ?_) ?_) ?_) ?_) ?_) ?_) ?_) ?_) ?_) ?_) ?_) ?_) ?_) ?_) ?_) ?_) ?_) ?_) ?_) ?_) ?_) ?_) ?_) ?_
 ·as_aux_lemma => kernel_rfl
 ·as_aux_lemma => kernel_rfl
 ·as_aux_lemma => kernel_rfl
 ·as_aux_lemma => kernel_rfl
 ·as_aux_lemma => kernel_rfl
 ·as_aux_lemma => kernel_rfl
 ·as_aux_lemma => kernel_rfl
 ·as_aux_lemma => kernel_rfl
 ·as_aux_lemma => kernel_rfl
 ·as_aux_lemma => kernel_rfl
 ·as_aux_lemma => kernel_rfl
 ·as_aux_lemma => kernel_rfl
 ·as_aux_lemma => kernel_rfl
 ·as_aux_lemma => kernel_rfl
 ·as_aux_lemma => kernel_rfl
 ·as_aux_lemma => kernel_rfl
 ·as_aux_lemma => kernel_rfl
 ·as_aux_lemma => kernel_rfl
 ·as_aux_lemma => kernel_rfl
 ·as_aux_lemma => kernel_rfl
 ·as_aux_lemma => kernel_rfl
 ·as_aux_lemma => kernel_rfl
 ·as_aux_lemma => kernel_rfl
 ·as_aux_lemma => kernel_rfl
 ·as_aux_lemma => kernel_rfl
 ·as_aux_lemma => kernel_rfl
 ·as_aux_lemma => kernel_rfl
 ·as_aux_lemma => kernel_rfl
 ·as_aux_lemma => kernel_rfl
 ·as_aux_lemma => kernel_rfl
 ·as_aux_lemma => kernel_rfl
 ·as_aux_lemma => kernel_rfl
theorem topTurns_holds : Rows.TopTurnsSaid :=
 OpenClaim.holds_of_wide 3 Tryz.f3 rfl rfl rfl rfl rfl rfl rfl ⟨rfl, rfl, rfl, rfl, rfl⟩ rfl rfl rfl rfl rfl topTurns_named Tryz.func3 topTurns_closed topTurns_inst topTurns_wrap
  (fun os started H enc _ => by
   have e : OpenClaim.pre enc Tryz.pinned.checked.prog Tryz.f3 (OpenSpec.ofChange Rows.topTurnsSpec) Rows.topTurnsRow = fun w args => (Rows.topTurnsSpec.pre enc Tryz.prog Tryz.f3 Rows.topTurnsRow.domain false w args ∧ True) ∧ sizedMet enc Tryz.prog Tryz.f3 (OpenSpec.ofChange Rows.topTurnsSpec) false w args := by
    funext w args
    unfold OpenClaim.pre OpenClaim.preLaid
    rw [and_true]
    rfl
   rw [e]
   exact topTurns_lifted os started H enc)
end Go.Proofs.YtkkpcbklhkfohaaGreat

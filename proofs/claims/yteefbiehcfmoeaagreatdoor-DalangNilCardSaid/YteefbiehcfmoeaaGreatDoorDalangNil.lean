/-
  It is proved that DalangNil returns true for all arguments and leaves them as they were: methods of a nil desk, and of a zero one, return the error for it. Condition: the listed package-level variables of the library read as the row says; no other condition beyond the statement's own.
-/
import Derived.Test.YteefbiehcfmoeaaGreatDoorG37DalangNil
import Derived.Test.YteefbiehcfmoeaaGreatDoorG17DalangNil
import Derived.Test.YteefbiehcfmoeaaGreatDoorG38DalangNil
import Derived.Test.YteefbiehcfmoeaaGreatDoorRows
import Derived.Test.YteefbiehcfmoeaaGreatDoorTie
import Derived.Test.YteefbiehcfmoeaaGreatDoorCards
import Derived.SevenTiedAt

namespace Go.Proofs.YteefbiehcfmoeaaGreatDoor
open Go.Vm Go.ChangeShapes Go.WideShapes Go.ChangeAt Go.RowKit
set_option maxHeartbeats 8000000 in
set_option maxRecDepth 100000 in
theorem dalangNil_lifted (os : Os) (started : os.Started) (H : Type) (enc : TypeId × Value → H) :
  ReturnsInHanded {} Tryz.checked os 3 .any (fun w args => (Rows.dalangNilSpec.pre enc Tryz.prog Tryz.f3 Rows.dalangNilRow.domain false w args ∧ laidMetH Tryz.prog Rows.dalangNilRow.laid w) ∧ sizedMet enc Tryz.prog Tryz.f3 (OpenSpec.ofChange Rows.dalangNilSpec) false w args)
   (Rows.dalangNilSpec.post enc Tryz.prog Tryz.f3 false true false false) := by
 refine returnsInHanded_of_change_and (C := Tryz.checked) (X := fun w _ => laidMetH Tryz.prog Rows.dalangNilRow.laid w) (fun _ _ _ hh h => h.of_heap hh) own started (by kernel_rfl) Tryz.func3
  (ChangeSpec.witness_shaped (enc := enc) (C := Tryz.checked) (os := os) (X := fun w _ => laidMetH Tryz.prog Rows.dalangNilRow.laid w) false (World.laidAll Tryz.prog os Rows.dalangNilRow.laid) #[.agg #[.int .i64 0, .slice none 0 0], .agg #[.int .i64 0, .slice none 0 0]] 8 (World.laidAll_os _ _ _)
   (World.shaped_of_ZipB (by kernel_rfl) (by kernel_rfl)) (by kernel_rfl) (by kernel_rfl) (by kernel_rfl)
   (by rw [MakeChecks.laidMetH_plain _ _ _ (by kernel_rfl)]; exact laidMet_laidAll _ (by kernel_rfl) (by kernel_rfl))) ?_
 intro W base args ds gs before hval0 hW _ _ hX _
 have hval : ∀ (j : Nat) t v, Tryz.f3.params[j]? = some t → args[j]? = some v → Value.okWide Tryz.prog W .any base t v := hval0
 have hW' := hW
 obtain ⟨p, q, hA0, hV, rfl, _, _⟩ := hW
 have hA : DataW.TrodAll enc Tryz.prog W 0 (fun _ => true) true Tryz.f3.params.toList args.toList ds p := hA0
 rw [Tryz.params3] at hA hval
 obtain ⟨v0, v1, d0, d1, p0, p1, rfl, rfl, rfl, h0, h1⟩ := trodAll_two hA
 obtain ⟨rfl, rfl⟩ := trodVars_none hV
 obtain ⟨x0, r0, _⟩ := arg_entry (hval 0 25 v0 rfl rfl) h0
 obtain ⟨x1, r1, _⟩ := arg_quest (hval 1 28 v1 rfl rfl) h1
 refine (law_calls (c_dalangNil x0 x1) (by simp only [VRels, and_true]; exact ⟨r0, r1⟩) (tab_of_laid (l := Rows.dalangNilRow.laid) (by have h := hX; rwa [MakeChecks.laidMetH_plain _ _ _ (by kernel_rfl)] at h) (List.Mem.tail _ (List.Mem.tail _ (List.Mem.head _))))).mono ?_
 rintro e W' ⟨rfl, hk⟩
 exact ⟨_, rfl, law_post laidOut (by kernel_rfl) (by kernel_rfl) (by kernel_rfl) hW' rfl rfl hk⟩
theorem dalangNil_named : Tryz.pinned.checked.prog.funcNamed Rows.dalangNilRow.func = some 3 := by kernel_rfl
theorem dalangNil_inst : Tryz.f3.isInstance Tryz.pinned.checked.prog Rows.dalangNilRow.origin Rows.dalangNilRow.targs := of_decide_eq_true (by kernel_rfl)
theorem dalangNil_wrap : Tryz.f3.isWrapper Tryz.pinned.checked.prog Rows.dalangNilRow.wrapper Rows.dalangNilRow.mainSum := by unfold Func.isWrapper; first | (rw [if_pos (by decide +kernel)]; kernel_rfl) | (rw [if_neg (by decide +kernel)]; exact ⟨rfl, rfl⟩)
set_option maxHeartbeats 8000000 in
theorem dalangNil_closed : joinedFacts Tryz.pinned.checked.prog 3 Tryz.f3 Rows.dalangNilSpec Rows.dalangNilRow = true := by
 unfold joinedFacts
 refine and_t (and_t (and_t (and_t (and_t (and_t (and_t (and_t (and_t (and_t (and_t (and_t (and_t (and_t (and_t (and_t (and_t (and_t (and_t (and_t (and_t (and_t (and_t (and_t (and_t (and_t (and_t (and_t (and_t (and_t (and_t ?_ ?_) ?_) ?_) ?_) ?_) ?_) ?_) ?_) ?_) ?_) ?_) ?_) ?_) ?_) ?_) ?_) ?_) ?_) ?_) ?_) ?_) ?_) ?_) ?_) ?_) ?_) ?_) ?_) ?_) ?_) ?_
 ·as_aux_lemma => kernel_rfl
 ·as_aux_lemma => kernel_rfl
 ·as_aux_lemma => kernel_rfl
 ·as_aux_lemma => kernel_rfl
 ·as_aux_lemma => kernel_rfl
 ·as_aux_lemma => kernel_rfl
 ·as_aux_lemma => kernel_rfl
 ·as_aux_lemma => kernel_rfl
 ·as_aux_lemma => kernel_rfl
 ·as_aux_lemma => kernel_rfl
 ·as_aux_lemma => kernel_rfl
 ·as_aux_lemma => kernel_rfl
 ·as_aux_lemma => kernel_rfl
 ·as_aux_lemma => kernel_rfl
 ·as_aux_lemma => kernel_rfl
 ·as_aux_lemma => kernel_rfl
 ·as_aux_lemma => kernel_rfl
 ·as_aux_lemma => kernel_rfl
 ·as_aux_lemma => kernel_rfl
 ·as_aux_lemma => kernel_rfl
 ·as_aux_lemma => kernel_rfl
 ·as_aux_lemma => kernel_rfl
 ·as_aux_lemma => kernel_rfl
 ·as_aux_lemma => kernel_rfl
 ·as_aux_lemma => kernel_rfl
 ·as_aux_lemma => kernel_rfl
 ·as_aux_lemma => kernel_rfl
 ·as_aux_lemma => kernel_rfl
 ·as_aux_lemma => kernel_rfl
 ·as_aux_lemma => kernel_rfl
 ·as_aux_lemma => kernel_rfl
 ·as_aux_lemma => kernel_rfl
theorem dalangNil_holds : Rows.DalangNilSaid :=
 OpenClaim.holds_of_wide 3 Tryz.f3 rfl rfl rfl rfl rfl rfl rfl ⟨rfl, rfl, rfl, rfl, rfl⟩ rfl rfl rfl rfl rfl dalangNil_named Tryz.func3 dalangNil_closed dalangNil_inst dalangNil_wrap
  (fun os started H enc _ => dalangNil_lifted os started H enc)
set_option maxHeartbeats 8000000 in
theorem dalangNil_card : Rows.DalangNilCardSaid :=
 Claim7.holds_tied_plain_at .later [] [.data, .data, .data, .data, .pinned] true (true, "4bf2ca954bdccf1a6fe9f8a01242d163ad742ccac6dfefa1658c0d68424d412b") true dalangNil_holds (fun _ h => by cases h) (by as_aux_lemma => kernel_rfl) (fun _ h => by cases h) dalangNil_row_tie rfl ⟨rfl, rfl⟩ (by as_aux_lemma => kernel_rfl) rfl
  (fun f fn hf hfn => by
   obtain rfl : f = 3 := Option.some.inj (dalangNil_named.symm.trans hf) |>.symm
   obtain rfl : fn = Tryz.f3 := (Option.some.inj (Tryz.func3.symm.trans hfn)).symm
   exact ⟨by as_aux_lemma => kernel_rfl, fun j t ht => by
    rw [Tryz.params3] at ht
    have hm : t ∈ [25, 28] := by simpa using Array.mem_of_getElem? ht
    have hall : ([25, 28].all fun u => !Tryz.prog.wantsStandIn u) = true := by kernel_rfl
    exact (show Tryz.prog.wantsStandIn t = false by simpa using List.all_eq_true.1 hall t hm)⟩)
  (by as_aux_lemma => kernel_rfl)
end Go.Proofs.YteefbiehcfmoeaaGreatDoor

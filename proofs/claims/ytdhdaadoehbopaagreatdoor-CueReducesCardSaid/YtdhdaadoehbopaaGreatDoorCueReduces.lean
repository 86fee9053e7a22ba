/-
  The law CueReduces of package kelirlaw04 returns true for every input, and each argument reads afterwards as it read before: the tied card. Conditions: what the row lists of package-level variables, tied to the text of the program.
-/
import Derived.Test.YtdhdaadoehbopaaGreatDoorCs
import Derived.Test.YtdhdaadoehbopaaGreatDoorVk
import Derived.Test.YtdhdaadoehbopaaGreatDoorVr
import Derived.Test.YtdhdaadoehbopaaGreatDoorRows
import Derived.Test.YtdhdaadoehbopaaGreatDoorTie
import Derived.Test.YtdhdaadoehbopaaGreatDoorCards
import Derived.SevenTiedAt

/-
  CueReduces: its walk. (Own work.)
-/
namespace Go.Vm
open Go.Proofs

set_option maxRecDepth 100000 in
theorem c_Reduce_no {b : Book} (hl : BLen b) (i : Int) (hP : ¬ (BOk b ∧ inI i 0 (b.vs.length - 1))) (H : List Blk) : ACall Tryz.prog 65 [eBook b, n' i] H (.ret (.tup [.agg [.lit (.slice none 0 0)], .lit (.int .i64 2)])) H := by
  refine fn_rule (m := false) (fn := Tryz.f65) (c := (Tryz.f65.body).getD .skip) mixed (by kernel_rfl) (by kernel_rfl) (of_decide_eq_true (by kernel_rfl)) ?_ ?_ ?_ H
  · exact ⟨under_eBook 0 _, trivial, trivial⟩
  · exact ⟨⟨trivial, trivial⟩, trivial, trivial⟩
  · refine CallG.bool (c_isBook hl) (fun hB => ?_) (fun _ => ?_)
    · refine CallG.bool (c_hasVersion hB.fit i) (fun h2 => absurd ⟨hB, h2⟩ hP) (fun _ => ?_)
      refine IfB.mk (fun _ => ?_) (fun e => by cases e)
      exact ⟨.inl rfl, FinG.mk _ rfl rfl rfl⟩
    · refine IfB.mk (fun _ => ?_) (fun e => by cases e)
      exact ⟨.inl rfl, FinG.mk _ rfl rfl rfl⟩


set_option maxHeartbeats 4000000 in
set_option maxRecDepth 100000 in
theorem c_cueReduces (b : Book) (version : Int) (H : List Blk) : ACall Tryz.prog 16 [eBook b, n' version] H (.ret (.lit (.bool true))) H := by
  refine fn_rule (m := false) (fn := Tryz.f16) (c := (Tryz.f16.body).getD .skip) mixed (by kernel_rfl) (by kernel_rfl) (of_decide_eq_true (by kernel_rfl)) ?_ ?_ ?_ H
  · exact ⟨under_eBook 0 _, trivial, trivial⟩
  · trivial
  · refine CallG.bool (c_short _) (fun hsh => ?_) (fun _ => ?_)
    · refine IfB.mk (fun e => by cases e) (fun _ => ?_)
      by_cases hG : BOk b ∧ inI version 0 (b.vs.length - 1)
      · obtain ⟨hB, h2⟩ := hG
        have hi := h2
        have hbc := hB.1.1
        unfold inI at hi
        obtain ⟨i, rfl⟩ : ∃ i : Nat, version = (i : Int) := ⟨version.toNat, by omega⟩
        have hi' : i < b.vs.length := by omega
        obtain ⟨hvi, hvm⟩ := vAt_of hi'
        have hV := hB.2 _ hvm
        have hv := hV.vers.1
        have hv4 := hV.2
        have hv4' := hv4
        unfold inI at hv4'
        obtain ⟨N, hE⟩ := exit_some (nxS_lt hv) hV.vers.2 (alF_refl hv)
        have hN := red_few hv hV.vers.2 hE
        have hr2 := red_length (v := vAt b.vs i) (K := b.cues.toNat) (N := N)
        have hrv := red_vers hv hV.vers.2 hE
        have hbc' := hbc
        unfold inI at hbc'
        have hRl : ∀ s ∈ redR (alF (vAt b.vs i) b.cues.toNat) (vAt b.vs i) b.cues.toNat N, s.length ≤ 1000000 := fun s hs => by
          rw [(hrv s hs).1]
          omega
        refine CallG.pure _ (c_Reduce hsh.len hB hi' hE) ?_
        refine CallG.bool (c_book hsh.len) (fun _ => ?_) (fun x => absurd hB x)
        refine CallG.bool (c_version hB.fit _) (fun _ => ?_) (fun x => absurd h2 x)
        refine IfB.mk (fun e => by cases e) (fun _ => ?_)
        refine If.mk (fun _ => ?_) (fun h => absurd (by decide) h)
        refine Ex.mk _ (jx_versions (r := i) rfl hvi) ?_
        refine Ex.mk _ rfl ?_
        refine CallG.pure _ (c_refReduce hbc hv hv4 hE) ?_
        refine CallG.bool (c_sameVersions _ _ (by omega) hRl (by omega) hRl) (fun _ => ?_) (fun x => absurd rfl x)
        refine CallG.pure _ (known_call) ?_
        exact ⟨.inl rfl, FinG.mk _ rfl rfl rfl⟩
      · refine CallG.pure _ (c_Reduce_no hsh.len version hG) ?_
        by_cases hB : BOk b
        · refine CallG.bool (c_book hsh.len) (fun _ => ?_) (fun x => absurd hB x)
          refine CallG.bool (c_version hB.fit _) (fun x => absurd ⟨hB, x⟩ hG) (fun _ => ?_)
          refine IfB.mk (fun _ => ?_) (fun e => by cases e)
          refine If.mk (fun _ => ?_) (fun h => absurd (by decide) h)
          refine If.mk (fun _ => ?_) (fun h => absurd (by decide) h)
          refine CallG.pure _ (known_call) ?_
          exact ⟨.inl rfl, FinG.mk _ rfl rfl rfl⟩
        · refine CallG.bool (c_book hsh.len) (fun x => absurd x hB) (fun _ => ?_)
          refine IfB.mk (fun _ => ?_) (fun e => by cases e)
          refine If.mk (fun _ => ?_) (fun h => absurd (by decide) h)
          refine If.mk (fun _ => ?_) (fun h => absurd (by decide) h)
          refine CallG.pure _ (known_call) ?_
          exact ⟨.inl rfl, FinG.mk _ rfl rfl rfl⟩
    · refine IfB.mk (fun _ => ?_) (fun e => by cases e)
      refine CallG.pure _ (known_call) ?_
      exact ⟨.inl rfl, FinG.mk _ rfl rfl rfl⟩
end Go.Vm

/-
  CueReduces: the row and its card. (Own work; printed by gen_law.py.)
-/

namespace Go.Proofs.YtdhdaadoehbopaaGreatDoor
open Go.Vm Go.ChangeShapes Go.WideShapes Go.ChangeAt Go.RowKit

set_option maxHeartbeats 8000000 in
set_option maxRecDepth 100000 in
theorem cueReduces_lifted (os : Os) (started : os.Started) (H : Type) (enc : TypeId × Value → H) :
    ReturnsInHanded {} Tryz.checked os 16 .any (fun w args => (Rows.cueReducesSpec.pre enc Tryz.prog Tryz.f16 Rows.cueReducesRow.domain false w args ∧ laidMetH Tryz.prog Rows.cueReducesRow.laid w) ∧ sizedMet enc Tryz.prog Tryz.f16 (OpenSpec.ofChange Rows.cueReducesSpec) false w args)
      (Rows.cueReducesSpec.post enc Tryz.prog Tryz.f16 false true false false) := by
  refine returnsInHanded_of_change_and (C := Tryz.checked) (X := fun w _ => laidMetH Tryz.prog Rows.cueReducesRow.laid w) (fun _ _ _ hh h => h.of_heap hh) own started (by kernel_rfl) Tryz.func16
    (ChangeSpec.witness_shaped (enc := enc) (C := Tryz.checked) (os := os) (X := fun w _ => laidMetH Tryz.prog Rows.cueReducesRow.laid w) false (World.laidAll Tryz.prog os Rows.cueReducesRow.laid) #[.agg #[.int .i64 0, .int .i64 0, .slice none 0 0], .int .i64 0] 8 (World.laidAll_os _ _ _)
      (World.shaped_of_ZipB (by kernel_rfl) (by kernel_rfl)) (by kernel_rfl) (by kernel_rfl) (by kernel_rfl)
      (by rw [MakeChecks.laidMetH_plain _ _ _ (by kernel_rfl)]; exact laidMet_laidAll _ (by kernel_rfl) (by kernel_rfl))) ?_
  intro W base args ds gs before hval0 hW _ _ _ _
  have hval : ∀ (j : Nat) t v, Tryz.f16.params[j]? = some t → args[j]? = some v → Value.okWide Tryz.prog W .any base t v := hval0
  have hW' := hW
  obtain ⟨p, q, hA0, hV, rfl, _, _⟩ := hW
  have hA : DataW.TrodAll enc Tryz.prog W 0 (fun _ => true) true Tryz.f16.params.toList args.toList ds p := hA0
  rw [Tryz.params16] at hA hval
  obtain ⟨v0, v1, d0, d1, p0, p1, rfl, rfl, rfl, h0, h1⟩ := trodAll_two hA
  obtain ⟨rfl, rfl⟩ := trodVars_none hV
  obtain ⟨x0, r0, _⟩ := arg_book (hval 0 24 v0 rfl rfl) h0
  obtain ⟨x1, r1, _⟩ := arg_int (hval 1 3 v1 rfl rfl) h1
  refine (law_calls (c_cueReduces x0 x1) (by simp only [VRels, and_true]; exact ⟨r0, r1⟩)).mono ?_
  rintro e W' ⟨rfl, hk⟩
  exact ⟨_, rfl, law_post laidOut (by kernel_rfl) (by kernel_rfl) (by kernel_rfl) hW' rfl rfl hk⟩

theorem cueReduces_named : Tryz.pinned.checked.prog.funcNamed Rows.cueReducesRow.func = some 16 := by kernel_rfl
theorem cueReduces_inst : Tryz.f16.isInstance Tryz.pinned.checked.prog Rows.cueReducesRow.origin Rows.cueReducesRow.targs := of_decide_eq_true (by kernel_rfl)
theorem cueReduces_wrap : Tryz.f16.isWrapper Tryz.pinned.checked.prog Rows.cueReducesRow.wrapper Rows.cueReducesRow.mainSum := by unfold Func.isWrapper; first | (rw [if_pos (by decide +kernel)]; kernel_rfl) | (rw [if_neg (by decide +kernel)]; exact ⟨rfl, rfl⟩)
set_option maxHeartbeats 8000000 in
theorem cueReduces_closed : joinedFacts Tryz.pinned.checked.prog 16 Tryz.f16 Rows.cueReducesSpec Rows.cueReducesRow = true := by
  unfold joinedFacts
  refine and_t (and_t (and_t (and_t (and_t (and_t (and_t (and_t (and_t (and_t (and_t (and_t (and_t (and_t (and_t (and_t (and_t (and_t (and_t (and_t (and_t (and_t (and_t (and_t (and_t (and_t (and_t (and_t (and_t (and_t (and_t ?_ ?_) ?_) ?_) ?_) ?_) ?_) ?_) ?_) ?_) ?_) ?_) ?_) ?_) ?_) ?_) ?_) ?_) ?_) ?_) ?_) ?_) ?_) ?_) ?_) ?_) ?_) ?_) ?_) ?_) ?_) ?_
  · as_aux_lemma => kernel_rfl
  · as_aux_lemma => kernel_rfl
  · as_aux_lemma => kernel_rfl
  · as_aux_lemma => kernel_rfl
  · as_aux_lemma => kernel_rfl
  · as_aux_lemma => kernel_rfl
  · as_aux_lemma => kernel_rfl
  · as_aux_lemma => kernel_rfl
  · as_aux_lemma => kernel_rfl
  · as_aux_lemma => kernel_rfl
  · as_aux_lemma => kernel_rfl
  · as_aux_lemma => kernel_rfl
  · as_aux_lemma => kernel_rfl
  · as_aux_lemma => kernel_rfl
  · as_aux_lemma => kernel_rfl
  · as_aux_lemma => kernel_rfl
  · as_aux_lemma => kernel_rfl
  · as_aux_lemma => kernel_rfl
  · as_aux_lemma => kernel_rfl
  · as_aux_lemma => kernel_rfl
  · as_aux_lemma => kernel_rfl
  · as_aux_lemma => kernel_rfl
  · as_aux_lemma => kernel_rfl
  · as_aux_lemma => kernel_rfl
  · as_aux_lemma => kernel_rfl
  · as_aux_lemma => kernel_rfl
  · as_aux_lemma => kernel_rfl
  · as_aux_lemma => kernel_rfl
  · as_aux_lemma => kernel_rfl
  · as_aux_lemma => kernel_rfl
  · as_aux_lemma => kernel_rfl
  · as_aux_lemma => kernel_rfl

theorem cueReduces_holds : Rows.CueReducesSaid :=
  OpenClaim.holds_of_wide 16 Tryz.f16 rfl rfl rfl rfl rfl rfl rfl ⟨rfl, rfl, rfl, rfl, rfl⟩ rfl rfl rfl rfl rfl cueReduces_named Tryz.func16 cueReduces_closed cueReduces_inst cueReduces_wrap
    (fun os started H enc _ => cueReduces_lifted os started H enc)

set_option maxHeartbeats 8000000 in
theorem cueReduces_card : Rows.CueReducesCardSaid :=
  Claim7.holds_tied_plain_at .later [] [.data, .data, .data, .data, .pinned] true (true, "d200c2f9484011b2fecf6d987098eee6f4d6857560912b686a09e1298a9b974d") true cueReduces_holds (fun _ h => by cases h) (by as_aux_lemma => kernel_rfl) (fun _ h => by cases h) cueReduces_row_tie rfl ⟨rfl, rfl⟩ (by as_aux_lemma => kernel_rfl) rfl
    (fun f fn hf hfn => by
      obtain rfl : f = 16 := Option.some.inj (cueReduces_named.symm.trans hf) |>.symm
      obtain rfl : fn = Tryz.f16 := (Option.some.inj (Tryz.func16.symm.trans hfn)).symm
      exact ⟨by as_aux_lemma => kernel_rfl, fun j t ht => by
        rw [Tryz.params16] at ht
        have hm : t ∈ [24, 3] := by simpa using Array.mem_of_getElem? ht
        have hall : ([24, 3].all fun u => !Tryz.prog.wantsStandIn u) = true := by kernel_rfl
        exact (show Tryz.prog.wantsStandIn t = false by simpa using List.all_eq_true.1 hall t hm)⟩)
    (by as_aux_lemma => kernel_rfl)
end Go.Proofs.YtdhdaadoehbopaaGreatDoor

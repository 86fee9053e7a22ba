/-
  The law CueCounts of package kelirlaw04 returns true for every input, and each argument reads afterwards as it read before: the tied card. Conditions: what the row lists of package-level variables, tied to the text of the program.
-/
import Derived.Test.YtdhdaadoehbopaaGreatDoorCd
import Derived.Test.YtdhdaadoehbopaaGreatDoorCc
import Derived.Test.YtdhdaadoehbopaaGreatDoorVk
import Derived.Test.YtdhdaadoehbopaaGreatDoorVr
import Derived.Test.YtdhdaadoehbopaaGreatDoorRows
import Derived.Test.YtdhdaadoehbopaaGreatDoorTie
import Derived.Test.YtdhdaadoehbopaaGreatDoorCards
import Derived.SevenTiedAt

/-
  CueCounts: its walk. (Own work.)
-/
namespace Go.Vm
open Go.Proofs


set_option maxHeartbeats 4000000 in
set_option maxRecDepth 100000 in
theorem c_cueCounts (b : Book) (version : Int) (tunes : List Int) (H : List Blk) : ACall Tryz.prog 6 [eBook b, n' version, eInts tunes] H (.ret (.lit (.bool true))) H := by
  refine fn_rule (m := false) (fn := Tryz.f6) (c := (Tryz.f6.body).getD .skip) mixed (by kernel_rfl) (by kernel_rfl) (of_decide_eq_true (by kernel_rfl)) ?_ ?_ ?_ H
  · exact ⟨under_eBook 0 _, trivial, under_eInts 0 _, trivial⟩
  · trivial
  · refine CallG.bool (c_short _) (fun hsh => ?_) (fun _ => ?_)
    · refine If.mk (fun h1 => ?_) (fun h1 => ?_)
      · refine IfB.mk (fun _ => ?_) (fun e => by cases e)
        refine CallG.pure _ (known_call) ?_
        exact ⟨.inl rfl, FinG.mk _ rfl rfl rfl⟩
      · have hcl : tunes.length < 4611686018427387904 := by omega
        by_cases hP : BOk b ∧ inI version 0 (b.vs.length - 1) ∧ LTunes b tunes
        · obtain ⟨h4, h5, h6⟩ := hP
          refine If.mk (fun h2 => ?_) (fun h2 => ?_)
          · refine CallG.bool (c_book hsh.len) (fun _ => ?_) (fun x => absurd h4 x)
            refine CallG.bool (c_version h4.fit _) (fun _ => ?_) (fun x => absurd h5 x)
            refine CallG.bool (c_tunes h4.fit _ hcl) (fun _ => ?_) (fun x => absurd h6 x)
            refine IfB.mk (fun _ => ?_) (fun e => by cases e)
            refine CallG.pure _ (known_call) ?_
            exact ⟨.inl rfl, FinG.mk _ rfl rfl rfl⟩
          · refine IfB.mk (fun e => by cases e) (fun _ => ?_)
            have hi := h5
            unfold inI at hi
            obtain ⟨v, hv⟩ : ∃ v, b.vs[version.toNat]? = some v := ⟨_, List.getElem?_eq_getElem (by omega)⟩
            obtain ⟨hvo, hv0⟩ := (h4.2 v (List.mem_of_getElem? hv)).vers
            have hcc := fun H => c_count hsh.len h4 (by omega) hv h6 H
            rw [hitL_nil] at hcc
            have hrc := fun H => c_refCount h4.1.1 hvo hv0 h6 H
            cases hF : fitL b.cues.toNat v tunes tunes.length with
            | nil =>
              rw [hF] at hcc hrc
              refine CallG.pure _ (hcc) ?_
              refine CallG.bool (c_book hsh.len) (fun _ => ?_) (fun x => absurd h4 x)
              refine CallG.bool (c_version h4.fit _) (fun _ => ?_) (fun x => absurd h5 x)
              refine CallG.bool (c_tunes h4.fit _ hcl) (fun _ => ?_) (fun x => absurd h6 x)
              refine IfB.mk (fun e => by cases e) (fun _ => ?_)
              refine Ex.mk _ (jx_versions (r := version.toNat) (by omega) hv) ?_
              refine Ex.mk _ rfl ?_
              refine CallG.pure _ (hrc) ?_
              refine If.mk (fun _ => ?_) (fun h => absurd (by decide) h)
              refine IfB.mk (fun _ => ?_) (fun e => by cases e)
              refine If.mk (fun _ => ?_) (fun h => absurd (by decide) h)
              refine If.mk (fun _ => ?_) (fun h => absurd (by decide) h)
              refine If.mk (fun _ => ?_) (fun h => absurd (by decide) h)
              refine CallG.pure _ (known_call) ?_
              exact ⟨.inl rfl, FinG.mk _ rfl rfl rfl⟩
            | cons x L =>
              rw [hF] at hcc hrc
              refine CallG.pure _ (hcc) ?_
              refine CallG.bool (c_book hsh.len) (fun _ => ?_) (fun x => absurd h4 x)
              refine CallG.bool (c_version h4.fit _) (fun _ => ?_) (fun x => absurd h5 x)
              refine CallG.bool (c_tunes h4.fit _ hcl) (fun _ => ?_) (fun x => absurd h6 x)
              refine IfB.mk (fun e => by cases e) (fun _ => ?_)
              refine Ex.mk _ (jx_versions (r := version.toNat) (by omega) hv) ?_
              refine Ex.mk _ rfl ?_
              refine CallG.pure _ (hrc) ?_
              refine If.mk (fun h => absurd h (by rw [List.length_cons]; omega)) (fun _ => ?_)
              refine IfB.mk (fun e => by cases e) (fun _ => ?_)
              refine If.mk (fun _ => ?_) (fun h => absurd (by decide) h)
              refine If.mk (fun _ => ?_) (fun h => absurd rfl h)
              have hxl : x.length = tunes.length := (fitL_mem (c := b.cues.toNat) (v := v) (tunes := tunes) (k := tunes.length) (l := x) (by rw [hF]; simp)).1
              refine CallG.bool (c_same _ _ (by omega)) (fun _ => ?_) (fun x => absurd rfl x)
              refine CallG.pure _ (known_call) ?_
              exact ⟨.inl rfl, FinG.mk _ rfl rfl rfl⟩
        · refine If.mk (fun h2 => ?_) (fun h2 => ?_)
          · refine CallG.bool (c_book hsh.len) (fun h4 => ?_) (fun _ => ?_)
            · refine CallG.bool (c_version h4.fit _) (fun h5 => ?_) (fun _ => ?_)
              · refine CallG.bool (c_tunes h4.fit _ hcl) (fun h6 => absurd ⟨h4, h5, h6⟩ hP) (fun _ => ?_)
                refine IfB.mk (fun e => by cases e) (fun _ => ?_)
                refine CallG.pure _ (c_count_no hsh.len version tunes hcl hP) ?_
                refine CallG.bool (c_book hsh.len) (fun h4 => ?_) (fun _ => ?_)
                · refine CallG.bool (c_version h4.fit _) (fun h5 => ?_) (fun _ => ?_)
                  · refine CallG.bool (c_tunes h4.fit _ hcl) (fun h6 => absurd ⟨h4, h5, h6⟩ hP) (fun _ => ?_)
                    refine IfB.mk (fun _ => ?_) (fun e => by cases e)
                    refine If.mk (fun _ => ?_) (fun h => absurd (by decide) h)
                    refine If.mk (fun _ => ?_) (fun h => absurd (by decide) h)
                    refine If.mk (fun _ => ?_) (fun h => absurd (by decide) h)
                    refine CallG.pure _ (known_call) ?_
                    exact ⟨.inl rfl, FinG.mk _ rfl rfl rfl⟩
                  · refine IfB.mk (fun _ => ?_) (fun e => by cases e)
                    refine If.mk (fun _ => ?_) (fun h => absurd (by decide) h)
                    refine If.mk (fun _ => ?_) (fun h => absurd (by decide) h)
                    refine If.mk (fun _ => ?_) (fun h => absurd (by decide) h)
                    refine CallG.pure _ (known_call) ?_
                    exact ⟨.inl rfl, FinG.mk _ rfl rfl rfl⟩
                · refine IfB.mk (fun _ => ?_) (fun e => by cases e)
                  refine If.mk (fun _ => ?_) (fun h => absurd (by decide) h)
                  refine If.mk (fun _ => ?_) (fun h => absurd (by decide) h)
                  refine If.mk (fun _ => ?_) (fun h => absurd (by decide) h)
                  refine CallG.pure _ (known_call) ?_
                  exact ⟨.inl rfl, FinG.mk _ rfl rfl rfl⟩
              · refine IfB.mk (fun e => by cases e) (fun _ => ?_)
                refine CallG.pure _ (c_count_no hsh.len version tunes hcl hP) ?_
                refine CallG.bool (c_book hsh.len) (fun h4 => ?_) (fun _ => ?_)
                · refine CallG.bool (c_version h4.fit _) (fun h5 => ?_) (fun _ => ?_)
                  · refine CallG.bool (c_tunes h4.fit _ hcl) (fun h6 => absurd ⟨h4, h5, h6⟩ hP) (fun _ => ?_)
                    refine IfB.mk (fun _ => ?_) (fun e => by cases e)
                    refine If.mk (fun _ => ?_) (fun h => absurd (by decide) h)
                    refine If.mk (fun _ => ?_) (fun h => absurd (by decide) h)
                    refine If.mk (fun _ => ?_) (fun h => absurd (by decide) h)
                    refine CallG.pure _ (known_call) ?_
                    exact ⟨.inl rfl, FinG.mk _ rfl rfl rfl⟩
                  · refine IfB.mk (fun _ => ?_) (fun e => by cases e)
                    refine If.mk (fun _ => ?_) (fun h => absurd (by decide) h)
                    refine If.mk (fun _ => ?_) (fun h => absurd (by decide) h)
                    refine If.mk (fun _ => ?_) (fun h => absurd (by decide) h)
                    refine CallG.pure _ (known_call) ?_
                    exact ⟨.inl rfl, FinG.mk _ rfl rfl rfl⟩
                · refine IfB.mk (fun _ => ?_) (fun e => by cases e)
                  refine If.mk (fun _ => ?_) (fun h => absurd (by decide) h)
                  refine If.mk (fun _ => ?_) (fun h => absurd (by decide) h)
                  refine If.mk (fun _ => ?_) (fun h => absurd (by decide) h)
                  refine CallG.pure _ (known_call) ?_
                  exact ⟨.inl rfl, FinG.mk _ rfl rfl rfl⟩
            · refine IfB.mk (fun e => by cases e) (fun _ => ?_)
              refine CallG.pure _ (c_count_no hsh.len version tunes hcl hP) ?_
              refine CallG.bool (c_book hsh.len) (fun h4 => ?_) (fun _ => ?_)
              · refine CallG.bool (c_version h4.fit _) (fun h5 => ?_) (fun _ => ?_)
                · refine CallG.bool (c_tunes h4.fit _ hcl) (fun h6 => absurd ⟨h4, h5, h6⟩ hP) (fun _ => ?_)
                  refine IfB.mk (fun _ => ?_) (fun e => by cases e)
                  refine If.mk (fun _ => ?_) (fun h => absurd (by decide) h)
                  refine If.mk (fun _ => ?_) (fun h => absurd (by decide) h)
                  refine If.mk (fun _ => ?_) (fun h => absurd (by decide) h)
                  refine CallG.pure _ (known_call) ?_
                  exact ⟨.inl rfl, FinG.mk _ rfl rfl rfl⟩
                · refine IfB.mk (fun _ => ?_) (fun e => by cases e)
                  refine If.mk (fun _ => ?_) (fun h => absurd (by decide) h)
                  refine If.mk (fun _ => ?_) (fun h => absurd (by decide) h)
                  refine If.mk (fun _ => ?_) (fun h => absurd (by decide) h)
                  refine CallG.pure _ (known_call) ?_
                  exact ⟨.inl rfl, FinG.mk _ rfl rfl rfl⟩
              · refine IfB.mk (fun _ => ?_) (fun e => by cases e)
                refine If.mk (fun _ => ?_) (fun h => absurd (by decide) h)
                refine If.mk (fun _ => ?_) (fun h => absurd (by decide) h)
                refine If.mk (fun _ => ?_) (fun h => absurd (by decide) h)
                refine CallG.pure _ (known_call) ?_
                exact ⟨.inl rfl, FinG.mk _ rfl rfl rfl⟩
          · refine IfB.mk (fun e => by cases e) (fun _ => ?_)
            refine CallG.pure _ (c_count_no hsh.len version tunes hcl hP) ?_
            refine CallG.bool (c_book hsh.len) (fun h4 => ?_) (fun _ => ?_)
            · refine CallG.bool (c_version h4.fit _) (fun h5 => ?_) (fun _ => ?_)
              · refine CallG.bool (c_tunes h4.fit _ hcl) (fun h6 => absurd ⟨h4, h5, h6⟩ hP) (fun _ => ?_)
                refine IfB.mk (fun _ => ?_) (fun e => by cases e)
                refine If.mk (fun _ => ?_) (fun h => absurd (by decide) h)
                refine If.mk (fun _ => ?_) (fun h => absurd (by decide) h)
                refine If.mk (fun _ => ?_) (fun h => absurd (by decide) h)
                refine CallG.pure _ (known_call) ?_
                exact ⟨.inl rfl, FinG.mk _ rfl rfl rfl⟩
              · refine IfB.mk (fun _ => ?_) (fun e => by cases e)
                refine If.mk (fun _ => ?_) (fun h => absurd (by decide) h)
                refine If.mk (fun _ => ?_) (fun h => absurd (by decide) h)
                refine If.mk (fun _ => ?_) (fun h => absurd (by decide) h)
                refine CallG.pure _ (known_call) ?_
                exact ⟨.inl rfl, FinG.mk _ rfl rfl rfl⟩
            · refine IfB.mk (fun _ => ?_) (fun e => by cases e)
              refine If.mk (fun _ => ?_) (fun h => absurd (by decide) h)
              refine If.mk (fun _ => ?_) (fun h => absurd (by decide) h)
              refine If.mk (fun _ => ?_) (fun h => absurd (by decide) h)
              refine CallG.pure _ (known_call) ?_
              exact ⟨.inl rfl, FinG.mk _ rfl rfl rfl⟩
    · refine IfB.mk (fun _ => ?_) (fun e => by cases e)
      refine CallG.pure _ (known_call) ?_
      exact ⟨.inl rfl, FinG.mk _ rfl rfl rfl⟩
end Go.Vm

/-
  CueCounts: the row and its card. (Own work; printed by gen_law.py.)
-/

namespace Go.Proofs.YtdhdaadoehbopaaGreatDoor
open Go.Vm Go.ChangeShapes Go.WideShapes Go.ChangeAt Go.RowKit

set_option maxHeartbeats 8000000 in
set_option maxRecDepth 100000 in
theorem cueCounts_lifted (os : Os) (started : os.Started) (H : Type) (enc : TypeId × Value → H) :
    ReturnsInHanded {} Tryz.checked os 6 .any (fun w args => (Rows.cueCountsSpec.pre enc Tryz.prog Tryz.f6 Rows.cueCountsRow.domain false w args ∧ laidMetH Tryz.prog Rows.cueCountsRow.laid w) ∧ sizedMet enc Tryz.prog Tryz.f6 (OpenSpec.ofChange Rows.cueCountsSpec) false w args)
      (Rows.cueCountsSpec.post enc Tryz.prog Tryz.f6 false true false false) := by
  refine returnsInHanded_of_change_and (C := Tryz.checked) (X := fun w _ => laidMetH Tryz.prog Rows.cueCountsRow.laid w) (fun _ _ _ hh h => h.of_heap hh) own started (by kernel_rfl) Tryz.func6
    (ChangeSpec.witness_shaped (enc := enc) (C := Tryz.checked) (os := os) (X := fun w _ => laidMetH Tryz.prog Rows.cueCountsRow.laid w) false (World.laidAll Tryz.prog os Rows.cueCountsRow.laid) #[.agg #[.int .i64 0, .int .i64 0, .slice none 0 0], .int .i64 0, .slice none 0 0] 8 (World.laidAll_os _ _ _)
      (World.shaped_of_ZipB (by kernel_rfl) (by kernel_rfl)) (by kernel_rfl) (by kernel_rfl) (by kernel_rfl)
      (by rw [MakeChecks.laidMetH_plain _ _ _ (by kernel_rfl)]; exact laidMet_laidAll _ (by kernel_rfl) (by kernel_rfl))) ?_
  intro W base args ds gs before hval0 hW _ _ _ _
  have hval : ∀ (j : Nat) t v, Tryz.f6.params[j]? = some t → args[j]? = some v → Value.okWide Tryz.prog W .any base t v := hval0
  have hW' := hW
  obtain ⟨p, q, hA0, hV, rfl, _, _⟩ := hW
  have hA : DataW.TrodAll enc Tryz.prog W 0 (fun _ => true) true Tryz.f6.params.toList args.toList ds p := hA0
  rw [Tryz.params6] at hA hval
  obtain ⟨v0, v1, v2, d0, d1, d2, p0, p1, p2, rfl, rfl, rfl, h0, h1, h2⟩ := trodAll_three hA
  obtain ⟨rfl, rfl⟩ := trodVars_none hV
  obtain ⟨x0, r0, _⟩ := arg_book (hval 0 24 v0 rfl rfl) h0
  obtain ⟨x1, r1, _⟩ := arg_int (hval 1 3 v1 rfl rfl) h1
  obtain ⟨x2, r2, _⟩ := arg_ints (hval 2 25 v2 rfl rfl) h2
  refine (law_calls (c_cueCounts x0 x1 x2) (by simp only [VRels, and_true]; exact ⟨r0, r1, r2⟩)).mono ?_
  rintro e W' ⟨rfl, hk⟩
  exact ⟨_, rfl, law_post laidOut (by kernel_rfl) (by kernel_rfl) (by kernel_rfl) hW' rfl rfl hk⟩

theorem cueCounts_named : Tryz.pinned.checked.prog.funcNamed Rows.cueCountsRow.func = some 6 := by kernel_rfl
theorem cueCounts_inst : Tryz.f6.isInstance Tryz.pinned.checked.prog Rows.cueCountsRow.origin Rows.cueCountsRow.targs := of_decide_eq_true (by kernel_rfl)
theorem cueCounts_wrap : Tryz.f6.isWrapper Tryz.pinned.checked.prog Rows.cueCountsRow.wrapper Rows.cueCountsRow.mainSum := by unfold Func.isWrapper; first | (rw [if_pos (by decide +kernel)]; kernel_rfl) | (rw [if_neg (by decide +kernel)]; exact ⟨rfl, rfl⟩)
set_option maxHeartbeats 8000000 in
theorem cueCounts_closed : joinedFacts Tryz.pinned.checked.prog 6 Tryz.f6 Rows.cueCountsSpec Rows.cueCountsRow = true := by
  unfold joinedFacts
  refine and_t (and_t (and_t (and_t (and_t (and_t (and_t (and_t (and_t (and_t (and_t (and_t (and_t (and_t (and_t (and_t (and_t (and_t (and_t (and_t (and_t (and_t (and_t (and_t (and_t (and_t (and_t (and_t (and_t (and_t (and_t ?_ ?_) ?_) ?_) ?_) ?_) ?_) ?_) ?_) ?_) ?_) ?_) ?_) ?_) ?_) ?_) ?_) ?_) ?_) ?_) ?_) ?_) ?_) ?_) ?_) ?_) ?_) ?_) ?_) ?_) ?_) ?_
  · as_aux_lemma => kernel_rfl
  · as_aux_lemma => kernel_rfl
  · as_aux_lemma => kernel_rfl
  · as_aux_lemma => kernel_rfl
  · as_aux_lemma => kernel_rfl
  · as_aux_lemma => kernel_rfl
  · as_aux_lemma => kernel_rfl
  · as_aux_lemma => kernel_rfl
  · as_aux_lemma => kernel_rfl
  · as_aux_lemma => kernel_rfl
  · as_aux_lemma => kernel_rfl
  · as_aux_lemma => kernel_rfl
  · as_aux_lemma => kernel_rfl
  · as_aux_lemma => kernel_rfl
  · as_aux_lemma => kernel_rfl
  · as_aux_lemma => kernel_rfl
  · as_aux_lemma => kernel_rfl
  · as_aux_lemma => kernel_rfl
  · as_aux_lemma => kernel_rfl
  · as_aux_lemma => kernel_rfl
  · as_aux_lemma => kernel_rfl
  · as_aux_lemma => kernel_rfl
  · as_aux_lemma => kernel_rfl
  · as_aux_lemma => kernel_rfl
  · as_aux_lemma => kernel_rfl
  · as_aux_lemma => kernel_rfl
  · as_aux_lemma => kernel_rfl
  · as_aux_lemma => kernel_rfl
  · as_aux_lemma => kernel_rfl
  · as_aux_lemma => kernel_rfl
  · as_aux_lemma => kernel_rfl
  · as_aux_lemma => kernel_rfl

theorem cueCounts_holds : Rows.CueCountsSaid :=
  OpenClaim.holds_of_wide 6 Tryz.f6 rfl rfl rfl rfl rfl rfl rfl ⟨rfl, rfl, rfl, rfl, rfl⟩ rfl rfl rfl rfl rfl cueCounts_named Tryz.func6 cueCounts_closed cueCounts_inst cueCounts_wrap
    (fun os started H enc _ => cueCounts_lifted os started H enc)

set_option maxHeartbeats 8000000 in
theorem cueCounts_card : Rows.CueCountsCardSaid :=
  Claim7.holds_tied_plain_at .later [] [.data, .data, .data, .data, .pinned] true (true, "d200c2f9484011b2fecf6d987098eee6f4d6857560912b686a09e1298a9b974d") true cueCounts_holds (fun _ h => by cases h) (by as_aux_lemma => kernel_rfl) (fun _ h => by cases h) cueCounts_row_tie rfl ⟨rfl, rfl⟩ (by as_aux_lemma => kernel_rfl) rfl
    (fun f fn hf hfn => by
      obtain rfl : f = 6 := Option.some.inj (cueCounts_named.symm.trans hf) |>.symm
      obtain rfl : fn = Tryz.f6 := (Option.some.inj (Tryz.func6.symm.trans hfn)).symm
      exact ⟨by as_aux_lemma => kernel_rfl, fun j t ht => by
        rw [Tryz.params6] at ht
        have hm : t ∈ [24, 3, 25] := by simpa using Array.mem_of_getElem? ht
        have hall : ([24, 3, 25].all fun u => !Tryz.prog.wantsStandIn u) = true := by kernel_rfl
        exact (show Tryz.prog.wantsStandIn t = false by simpa using List.all_eq_true.1 hall t hm)⟩)
    (by as_aux_lemma => kernel_rfl)
end Go.Proofs.YtdhdaadoehbopaaGreatDoor

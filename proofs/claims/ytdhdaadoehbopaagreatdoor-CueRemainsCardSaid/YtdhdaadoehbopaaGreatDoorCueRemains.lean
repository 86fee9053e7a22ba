/-
  The law CueRemains of package kelirlaw04 returns true for every input, and each argument reads afterwards as it read before: the tied card. Conditions: what the row lists of package-level variables, tied to the text of the program.
-/
import Derived.Test.YtdhdaadoehbopaaGreatDoorCc
import Derived.Test.YtdhdaadoehbopaaGreatDoorVk
import Derived.Test.YtdhdaadoehbopaaGreatDoorVr
import Derived.Test.YtdhdaadoehbopaaGreatDoorRows
import Derived.Test.YtdhdaadoehbopaaGreatDoorTie
import Derived.Test.YtdhdaadoehbopaaGreatDoorCards
import Derived.SevenTiedAt

/-
  CueRemains: its walk. (Own work.)
-/
namespace Go.Vm
open Go.Proofs


set_option maxHeartbeats 4000000 in
set_option maxRecDepth 100000 in
theorem c_cueRemains (b : Book) (evs : List Evening) (cues : List Int) (H : List Blk) :
    ACall Tryz.prog 4 [eBook b, eEvenings evs, eInts cues] H (.ret (.lit (.bool true))) H := by
  refine fn_rule (m := false) (fn := Tryz.f4) (c := (Tryz.f4.body).getD .skip) mixed (by kernel_rfl) (by kernel_rfl) (of_decide_eq_true (by kernel_rfl)) ?_ ?_ ?_ H
  · exact ⟨under_eBook 0 _, under_eEvenings 0 _, under_eInts 0 _, trivial⟩
  · trivial
  · refine CallG.bool (c_short _) (fun hsh => ?_) (fun _ => ?_)
    · refine CallG.bool (c_brief _) (fun hbr => ?_) (fun _ => ?_)
      · refine If.mk (fun h3 => ?_) (fun h3 => ?_)
        · refine IfB.mk (fun _ => ?_) (fun e => by cases e)
          refine CallG.pure _ (known_call) ?_
          exact ⟨.inl rfl, FinG.mk _ rfl rfl rfl⟩
        · refine IfB.mk (fun e => by cases e) (fun _ => ?_)
          have hlen : evs.length < 4611686018427387904 := by have := hbr.2; omega
          have hle : ∀ e ∈ evs, e.1.length < 4611686018427387904 ∧ e.2.length < 4611686018427387904 := fun e he => by
            have := hbr.1 e he
            unfold Slim at this
            omega
          have hcl : cues.length < 4611686018427387904 := by omega
          by_cases hG : BOk b ∧ EvsOk b evs
          · obtain ⟨hB, hE⟩ := hG
            have hvn := hB.1.2.2
            unfold inI at hvn
            have hRl := remL_length b.vs evs b.vs.length
            have hmem : ∀ j ∈ remL b.vs evs b.vs.length, 0 ≤ j ∧ j < b.vs.length := fun j hj => remL_mem hj
            refine CallG.pure _ (c_Remains_ok hsh.len hB hE) ?_
            by_cases hC : LList b cues
            · by_cases hne : remL b.vs evs b.vs.length = []
              · refine CallG.pure _ (c_sure_none hsh.len hB hE hC (by rw [remL_now]; exact hne)) ?_
                refine CallG.bool (c_book hsh.len) (fun _ => ?_) (fun x => absurd hB x)
                refine CallG.bool (c_evenings hB.fit _ hlen hle) (fun _ => ?_) (fun x => absurd hE x)
                refine IfB.mk (fun e => by cases e) (fun _ => ?_)
                refine CallG.pure _ (c_refRemains hB hE.1 (by have := hE.2; omega)) ?_
                refine If.mk (fun _ => ?_) (fun h => absurd (by decide) h)
                refine CallG.bool (c_same _ _ (by omega)) (fun _ => ?_) (fun x => absurd rfl x)
                refine IfB.mk (fun e => by cases e) (fun _ => ?_)
                refine CallG.bool (c_list hB.fit _ hcl) (fun _ => ?_) (fun x => absurd hC x)
                refine IfB.mk (fun e => by cases e) (fun _ => ?_)
                rw [hne]
                refine If.mk (fun _ => ?_) (fun h => absurd (by decide) h)
                refine IfB.mk (fun _ => ?_) (fun e => by cases e)
                refine If.mk (fun _ => ?_) (fun h => absurd (by decide) h)
                refine If.mk (fun _ => ?_) (fun h => absurd (by decide) h)
                refine CallG.pure _ (known_call) ?_
                exact ⟨.inl rfl, FinG.mk _ rfl rfl rfl⟩
              · have hsure : ∀ H, ACall Tryz.prog 38 [eBook b, eEvenings evs, eInts cues] H (.ret (.tup [eInts (sureL b cues (remL b.vs evs b.vs.length)), .lit (.int .i64 0)])) H := fun H => by
                  have := c_sure_ok hsh.len hB hE hC (by rw [remL_now]; exact hne) H
                  rwa [remL_now] at this
                have hsl : (sureL b cues (remL b.vs evs b.vs.length)).length < 4611686018427387904 := by
                  cases hL : remL b.vs evs b.vs.length with
                  | nil => exact absurd hL hne
                  | cons i R => rw [sureL_length]; exact hcl
                refine CallG.pure _ (hsure) ?_
                refine CallG.bool (c_book hsh.len) (fun _ => ?_) (fun x => absurd hB x)
                refine CallG.bool (c_evenings hB.fit _ hlen hle) (fun _ => ?_) (fun x => absurd hE x)
                refine IfB.mk (fun e => by cases e) (fun _ => ?_)
                refine CallG.pure _ (c_refRemains hB hE.1 (by have := hE.2; omega)) ?_
                refine If.mk (fun _ => ?_) (fun h => absurd (by decide) h)
                refine CallG.bool (c_same _ _ (by omega)) (fun _ => ?_) (fun x => absurd rfl x)
                refine IfB.mk (fun e => by cases e) (fun _ => ?_)
                refine CallG.bool (c_list hB.fit _ hcl) (fun _ => ?_) (fun x => absurd hC x)
                refine IfB.mk (fun e => by cases e) (fun _ => ?_)
                have hpos : remL b.vs evs b.vs.length ≠ [] := hne
                generalize remL b.vs evs b.vs.length = L at hRl hmem hpos hsl ⊢
                refine If.mk (fun h => absurd (List.length_eq_zero_iff.1 (by omega)) hpos) (fun _ => ?_)
                refine IfB.mk (fun e => by cases e) (fun _ => ?_)
                refine If.mk (fun _ => ?_) (fun h => absurd (by decide) h)
                refine CallG.pure _ (c_refSure hB hC hpos hmem hRl) ?_
                refine CallG.bool (c_same _ _ hsl) (fun _ => ?_) (fun x => absurd rfl x)
                refine CallG.pure _ (known_call) ?_
                exact ⟨.inl rfl, FinG.mk _ rfl rfl rfl⟩
            · refine CallG.pure _ (c_sure_bad hsh.len hlen hle hcl (fun x => hC x.2.2)) ?_
              refine CallG.bool (c_book hsh.len) (fun _ => ?_) (fun x => absurd hB x)
              refine CallG.bool (c_evenings hB.fit _ hlen hle) (fun _ => ?_) (fun x => absurd hE x)
              refine IfB.mk (fun e => by cases e) (fun _ => ?_)
              refine CallG.pure _ (c_refRemains hB hE.1 (by have := hE.2; omega)) ?_
              refine If.mk (fun _ => ?_) (fun h => absurd (by decide) h)
              refine CallG.bool (c_same _ _ (by omega)) (fun _ => ?_) (fun x => absurd rfl x)
              refine IfB.mk (fun e => by cases e) (fun _ => ?_)
              refine CallG.bool (c_list hB.fit _ hcl) (fun x => absurd x hC) (fun _ => ?_)
              refine IfB.mk (fun _ => ?_) (fun e => by cases e)
              refine If.mk (fun _ => ?_) (fun h => absurd (by decide) h)
              refine If.mk (fun _ => ?_) (fun h => absurd (by decide) h)
              refine CallG.pure _ (known_call) ?_
              exact ⟨.inl rfl, FinG.mk _ rfl rfl rfl⟩
          · refine CallG.pure _ (c_Remains_no hsh.len hlen hle hG) ?_
            refine CallG.pure _ (c_sure_bad hsh.len hlen hle hcl (fun x => hG ⟨x.1, x.2.1⟩)) ?_
            refine CallG.bool (c_book hsh.len) (fun hB => ?_) (fun _ => ?_)
            · refine CallG.bool (c_evenings hB.fit _ hlen hle) (fun x => absurd ⟨hB, x⟩ hG) (fun _ => ?_)
              refine IfB.mk (fun _ => ?_) (fun e => by cases e)
              refine If.mk (fun _ => ?_) (fun h => absurd (by decide) h)
              refine If.mk (fun _ => ?_) (fun h => absurd (by decide) h)
              refine If.mk (fun _ => ?_) (fun h => absurd (by decide) h)
              refine If.mk (fun _ => ?_) (fun h => absurd (by decide) h)
              refine CallG.pure _ (known_call) ?_
              exact ⟨.inl rfl, FinG.mk _ rfl rfl rfl⟩
            · refine IfB.mk (fun _ => ?_) (fun e => by cases e)
              refine If.mk (fun _ => ?_) (fun h => absurd (by decide) h)
              refine If.mk (fun _ => ?_) (fun h => absurd (by decide) h)
              refine If.mk (fun _ => ?_) (fun h => absurd (by decide) h)
              refine If.mk (fun _ => ?_) (fun h => absurd (by decide) h)
              refine CallG.pure _ (known_call) ?_
              exact ⟨.inl rfl, FinG.mk _ rfl rfl rfl⟩
      · refine IfB.mk (fun _ => ?_) (fun e => by cases e)
        refine CallG.pure _ (known_call) ?_
        exact ⟨.inl rfl, FinG.mk _ rfl rfl rfl⟩
    · refine IfB.mk (fun _ => ?_) (fun e => by cases e)
      refine CallG.pure _ (known_call) ?_
      exact ⟨.inl rfl, FinG.mk _ rfl rfl rfl⟩
end Go.Vm

/-
  CueRemains: the row and its card. (Own work; printed by gen_law.py.)
-/

namespace Go.Proofs.YtdhdaadoehbopaaGreatDoor
open Go.Vm Go.ChangeShapes Go.WideShapes Go.ChangeAt Go.RowKit

set_option maxHeartbeats 8000000 in
set_option maxRecDepth 100000 in
theorem cueRemains_lifted (os : Os) (started : os.Started) (H : Type) (enc : TypeId × Value → H) :
    ReturnsInHanded {} Tryz.checked os 4 .any (fun w args => (Rows.cueRemainsSpec.pre enc Tryz.prog Tryz.f4 Rows.cueRemainsRow.domain false w args ∧ laidMetH Tryz.prog Rows.cueRemainsRow.laid w) ∧ sizedMet enc Tryz.prog Tryz.f4 (OpenSpec.ofChange Rows.cueRemainsSpec) false w args)
      (Rows.cueRemainsSpec.post enc Tryz.prog Tryz.f4 false true false false) := by
  refine returnsInHanded_of_change_and (C := Tryz.checked) (X := fun w _ => laidMetH Tryz.prog Rows.cueRemainsRow.laid w) (fun _ _ _ hh h => h.of_heap hh) own started (by kernel_rfl) Tryz.func4
    (ChangeSpec.witness_shaped (enc := enc) (C := Tryz.checked) (os := os) (X := fun w _ => laidMetH Tryz.prog Rows.cueRemainsRow.laid w) false (World.laidAll Tryz.prog os Rows.cueRemainsRow.laid) #[.agg #[.int .i64 0, .int .i64 0, .slice none 0 0], .slice none 0 0, .slice none 0 0] 8 (World.laidAll_os _ _ _)
      (World.shaped_of_ZipB (by kernel_rfl) (by kernel_rfl)) (by kernel_rfl) (by kernel_rfl) (by kernel_rfl)
      (by rw [MakeChecks.laidMetH_plain _ _ _ (by kernel_rfl)]; exact laidMet_laidAll _ (by kernel_rfl) (by kernel_rfl))) ?_
  intro W base args ds gs before hval0 hW _ _ _ _
  have hval : ∀ (j : Nat) t v, Tryz.f4.params[j]? = some t → args[j]? = some v → Value.okWide Tryz.prog W .any base t v := hval0
  have hW' := hW
  obtain ⟨p, q, hA0, hV, rfl, _, _⟩ := hW
  have hA : DataW.TrodAll enc Tryz.prog W 0 (fun _ => true) true Tryz.f4.params.toList args.toList ds p := hA0
  rw [Tryz.params4] at hA hval
  obtain ⟨v0, v1, v2, d0, d1, d2, p0, p1, p2, rfl, rfl, rfl, h0, h1, h2⟩ := trodAll_three hA
  obtain ⟨rfl, rfl⟩ := trodVars_none hV
  obtain ⟨x0, r0, _⟩ := arg_book (hval 0 24 v0 rfl rfl) h0
  obtain ⟨x1, r1, _⟩ := arg_evenings (hval 1 40 v1 rfl rfl) h1
  obtain ⟨x2, r2, _⟩ := arg_ints (hval 2 25 v2 rfl rfl) h2
  refine (law_calls (c_cueRemains x0 x1 x2) (by simp only [VRels, and_true]; exact ⟨r0, r1, r2⟩)).mono ?_
  rintro e W' ⟨rfl, hk⟩
  exact ⟨_, rfl, law_post laidOut (by kernel_rfl) (by kernel_rfl) (by kernel_rfl) hW' rfl rfl hk⟩

theorem cueRemains_named : Tryz.pinned.checked.prog.funcNamed Rows.cueRemainsRow.func = some 4 := by kernel_rfl
theorem cueRemains_inst : Tryz.f4.isInstance Tryz.pinned.checked.prog Rows.cueRemainsRow.origin Rows.cueRemainsRow.targs := of_decide_eq_true (by kernel_rfl)
theorem cueRemains_wrap : Tryz.f4.isWrapper Tryz.pinned.checked.prog Rows.cueRemainsRow.wrapper Rows.cueRemainsRow.mainSum := by unfold Func.isWrapper; first | (rw [if_pos (by decide +kernel)]; kernel_rfl) | (rw [if_neg (by decide +kernel)]; exact ⟨rfl, rfl⟩)
set_option maxHeartbeats 8000000 in
theorem cueRemains_closed : joinedFacts Tryz.pinned.checked.prog 4 Tryz.f4 Rows.cueRemainsSpec Rows.cueRemainsRow = true := by
  unfold joinedFacts
  refine and_t (and_t (and_t (and_t (and_t (and_t (and_t (and_t (and_t (and_t (and_t (and_t (and_t (and_t (and_t (and_t (and_t (and_t (and_t (and_t (and_t (and_t (and_t (and_t (and_t (and_t (and_t (and_t (and_t (and_t (and_t ?_ ?_) ?_) ?_) ?_) ?_) ?_) ?_) ?_) ?_) ?_) ?_) ?_) ?_) ?_) ?_) ?_) ?_) ?_) ?_) ?_) ?_) ?_) ?_) ?_) ?_) ?_) ?_) ?_) ?_) ?_) ?_
  · as_aux_lemma => kernel_rfl
  · as_aux_lemma => kernel_rfl
  · as_aux_lemma => kernel_rfl
  · as_aux_lemma => kernel_rfl
  · as_aux_lemma => kernel_rfl
  · as_aux_lemma => kernel_rfl
  · as_aux_lemma => kernel_rfl
  · as_aux_lemma => kernel_rfl
  · as_aux_lemma => kernel_rfl
  · as_aux_lemma => kernel_rfl
  · as_aux_lemma => kernel_rfl
  · as_aux_lemma => kernel_rfl
  · as_aux_lemma => kernel_rfl
  · as_aux_lemma => kernel_rfl
  · as_aux_lemma => kernel_rfl
  · as_aux_lemma => kernel_rfl
  · as_aux_lemma => kernel_rfl
  · as_aux_lemma => kernel_rfl
  · as_aux_lemma => kernel_rfl
  · as_aux_lemma => kernel_rfl
  · as_aux_lemma => kernel_rfl
  · as_aux_lemma => kernel_rfl
  · as_aux_lemma => kernel_rfl
  · as_aux_lemma => kernel_rfl
  · as_aux_lemma => kernel_rfl
  · as_aux_lemma => kernel_rfl
  · as_aux_lemma => kernel_rfl
  · as_aux_lemma => kernel_rfl
  · as_aux_lemma => kernel_rfl
  · as_aux_lemma => kernel_rfl
  · as_aux_lemma => kernel_rfl
  · as_aux_lemma => kernel_rfl

theorem cueRemains_holds : Rows.CueRemainsSaid :=
  OpenClaim.holds_of_wide 4 Tryz.f4 rfl rfl rfl rfl rfl rfl rfl ⟨rfl, rfl, rfl, rfl, rfl⟩ rfl rfl rfl rfl rfl cueRemains_named Tryz.func4 cueRemains_closed cueRemains_inst cueRemains_wrap
    (fun os started H enc _ => cueRemains_lifted os started H enc)

set_option maxHeartbeats 8000000 in
theorem cueRemains_card : Rows.CueRemainsCardSaid :=
  Claim7.holds_tied_plain_at .later [] [.data, .data, .data, .data, .pinned] true (true, "d200c2f9484011b2fecf6d987098eee6f4d6857560912b686a09e1298a9b974d") true cueRemains_holds (fun _ h => by cases h) (by as_aux_lemma => kernel_rfl) (fun _ h => by cases h) cueRemains_row_tie rfl ⟨rfl, rfl⟩ (by as_aux_lemma => kernel_rfl) rfl
    (fun f fn hf hfn => by
      obtain rfl : f = 4 := Option.some.inj (cueRemains_named.symm.trans hf) |>.symm
      obtain rfl : fn = Tryz.f4 := (Option.some.inj (Tryz.func4.symm.trans hfn)).symm
      exact ⟨by as_aux_lemma => kernel_rfl, fun j t ht => by
        rw [Tryz.params4] at ht
        have hm : t ∈ [24, 40, 25] := by simpa using Array.mem_of_getElem? ht
        have hall : ([24, 40, 25].all fun u => !Tryz.prog.wantsStandIn u) = true := by kernel_rfl
        exact (show Tryz.prog.wantsStandIn t = false by simpa using List.all_eq_true.1 hall t hm)⟩)
    (by as_aux_lemma => kernel_rfl)
end Go.Proofs.YtdhdaadoehbopaaGreatDoor

/-
  The law CuePlays of package kelirlaw04 returns true for every input, and each argument reads afterwards as it read before: the tied card. Conditions: what the row lists of package-level variables, tied to the text of the program.
-/
import Derived.Test.YtdhdaadoehbopaaGreatDoorCa
import Derived.Test.YtdhdaadoehbopaaGreatDoorVk
import Derived.Test.YtdhdaadoehbopaaGreatDoorVr
import Derived.Test.YtdhdaadoehbopaaGreatDoorRows
import Derived.Test.YtdhdaadoehbopaaGreatDoorTie
import Derived.Test.YtdhdaadoehbopaaGreatDoorCards
import Derived.SevenTiedAt

/-
  CuePlays: its walk. (Own work.)
-/
namespace Go.Vm
open Go.Proofs

set_option maxRecDepth 100000 in
theorem c_check {b : Book} (hl : BLen b) (H : List Blk) : ACall Tryz.prog 80 [eBook b] H (.ret (n' (if BOk b then 0 else 2))) H := by
  refine fn_rule (m := false) (fn := Tryz.f80) (c := (Tryz.f80.body).getD .skip) mixed (by kernel_rfl) (by kernel_rfl) (of_decide_eq_true (by kernel_rfl)) ?_ ?_ ?_ H
  · exact ⟨under_eBook 0 _, trivial⟩
  · trivial
  · refine CallG.bool (c_isBook hl) (fun h => ?_) (fun h => ?_)
    · refine IfB.mk (fun e => by cases e) (fun _ => ?_)
      rw [if_pos h]
      exact ⟨.inl rfl, FinG.mk _ rfl rfl rfl⟩
    · refine IfB.mk (fun _ => ?_) (fun e => by cases e)
      rw [if_neg h]
      exact ⟨.inl rfl, FinG.mk _ rfl rfl rfl⟩

theorem c_check_ok {b : Book} (hl : BLen b) (h : BOk b) (H : List Blk) : ACall Tryz.prog 80 [eBook b] H (.ret (n' 0)) H := by
  have := c_check hl H
  rwa [if_pos h] at this
theorem c_check_no {b : Book} (hl : BLen b) (h : ¬ BOk b) (H : List Blk) : ACall Tryz.prog 80 [eBook b] H (.ret (n' 2)) H := by
  have := c_check hl H
  rwa [if_neg h] at this

theorem c_plays_no {b : Book} (hb : BLen b) {i : Int} {l : List Int} (hl : l.length < 4611686018427387904) (h : ¬ (BOk b ∧ inI i 0 (b.vs.length - 1) ∧ LList b l)) (H : List Blk) :
    ACall Tryz.prog 33 [eBook b, n' i, eInts l] H (.ret (.tup [.lit (.slice none 0 0), .lit (.int .i64 2)])) H := by
  have e := c_plays hb i l hl H
  unfold playsR at e
  rwa [if_neg h] at e

set_option maxRecDepth 100000 in
theorem c_refPlays {v : Vers} {k : Nat} {cues : List Int} (hv : VersOk v k) (hs : 0 < v.length) (hc : CuesOk k cues) (hL : cues.length < 1000000) (H : List Blk) :
    ACall Tryz.prog 81 [eVersion v, eInts cues] H (.ret (eInts (plays v 0 cues))) H := by
  refine fn_rule (m := false) (fn := Tryz.f81) (c := (Tryz.f81.body).getD .skip) mixed (by kernel_rfl) (by kernel_rfl) (of_decide_eq_true (by kernel_rfl)) ?_ ?_ ?_ H
  · exact ⟨under_eVersion 0 _, under_eInts 0 _, trivial⟩
  · exact under_eInts 0 _
  · refine CallG.pure _ (c_from hv hs hc hL) ?_
    refine ⟨.inl rfl, FinG.mk _ rfl rfl ?_⟩
    exact freeze_eInts _ _


set_option maxRecDepth 100000 in
theorem c_cuePlays (b : Book) (version : Int) (cues : List Int) (H : List Blk) : ACall Tryz.prog 23 [eBook b, n' version, eInts cues] H (.ret (.lit (.bool true))) H := by
  refine fn_rule (m := false) (fn := Tryz.f23) (c := (Tryz.f23.body).getD .skip) mixed (by kernel_rfl) (by kernel_rfl) (of_decide_eq_true (by kernel_rfl)) ?_ ?_ ?_ H
  · exact ⟨under_eBook 0 _, trivial, under_eInts 0 _, trivial⟩
  · trivial
  · refine CallG.bool (c_short _) (fun h => ?_) (fun h => ?_)
    · refine If.mk (fun h1 => ?_) (fun h1 => ?_)
      · refine IfB.mk (fun _ => ?_) (fun e => by cases e)
        refine CallG.pure _ (known_call) ?_
        exact ⟨.inl rfl, FinG.mk _ rfl rfl rfl⟩
      · refine IfB.mk (fun e => by cases e) (fun _ => ?_)
        have hl : cues.length < 4611686018427387904 := by omega
        by_cases hB : BOk b
        · refine CallG.pure _ (c_check_ok h.len hB) ?_
          by_cases hP : inI version 0 (b.vs.length - 1) ∧ LList b cues
          · obtain ⟨h2, h3⟩ := hP
            have h2' := h2
            unfold inI at h2'
            have hi : version.toNat < b.vs.length := by omega
            obtain ⟨v, hv⟩ : ∃ v, b.vs[version.toNat]? = some v := ⟨_, List.getElem?_eq_getElem hi⟩
            obtain ⟨hvo, h0⟩ := (hB.2 v (List.mem_of_getElem? hv)).vers
            have h0c := hB.1.1.1
            obtain ⟨hc1, hc2⟩ := h3.cues (by omega)
            refine CallG.pure _ (c_plays_ok h.len hB h2.1 hv h3) ?_
            refine CallG.bool (c_book h.len) (fun _ => ?_) (fun x => absurd hB x)
            refine IfB.mk (fun e => by cases e) (fun _ => ?_)
            refine CallG.bool (c_version hB.fit _) (fun _ => ?_) (fun x => absurd h2 x)
            refine CallG.bool (c_list hB.fit _ hl) (fun _ => ?_) (fun x => absurd h3 x)
            refine IfB.mk (fun e => by cases e) (fun _ => ?_)
            refine If.mk (fun _ => ?_) (fun h => absurd (by decide) h)
            refine If.mk (fun _ => ?_) (fun h => absurd (by decide) h)
            refine Ex.mk _ (jx_versions (r := version.toNat) (by omega) hv) ?_
            refine Ex.mk _ rfl ?_
            refine CallG.pure _ (c_refPlays hvo h0 hc1 hc2) ?_
            refine CallG.bool (c_same _ _ (by rw [plays_length]; omega)) (fun _ => ?_) (fun x => absurd rfl x)
            refine CallG.pure _ (known_call) ?_
            exact ⟨.inl rfl, FinG.mk _ rfl rfl rfl⟩
          · refine CallG.pure _ (c_plays_no h.len hl (fun x => hP x.2)) ?_
            refine CallG.bool (c_book h.len) (fun _ => ?_) (fun x => absurd hB x)
            refine IfB.mk (fun e => by cases e) (fun _ => ?_)
            refine CallG.bool (c_version hB.fit _) (fun h2 => ?_) (fun h2 => ?_)
            · refine CallG.bool (c_list hB.fit _ hl) (fun h3 => absurd ⟨h2, h3⟩ hP) (fun _ => ?_)
              refine IfB.mk (fun _ => ?_) (fun e => by cases e)
              refine If.mk (fun _ => ?_) (fun h => absurd (by decide) h)
              refine If.mk (fun _ => ?_) (fun h => absurd (by decide) h)
              refine If.mk (fun _ => ?_) (fun h => absurd (by decide) h)
              refine CallG.pure _ (known_call) ?_
              exact ⟨.inl rfl, FinG.mk _ rfl rfl rfl⟩
            · refine IfB.mk (fun _ => ?_) (fun e => by cases e)
              refine If.mk (fun _ => ?_) (fun h => absurd (by decide) h)
              refine If.mk (fun _ => ?_) (fun h => absurd (by decide) h)
              refine If.mk (fun _ => ?_) (fun h => absurd (by decide) h)
              refine CallG.pure _ (known_call) ?_
              exact ⟨.inl rfl, FinG.mk _ rfl rfl rfl⟩
        · refine CallG.pure _ (c_check_no h.len hB) ?_
          refine CallG.pure _ (c_plays_no h.len hl (fun x => hB x.1)) ?_
          refine CallG.bool (c_book h.len) (fun x => absurd x hB) (fun _ => ?_)
          refine IfB.mk (fun _ => ?_) (fun e => by cases e)
          refine If.mk (fun _ => ?_) (fun h => absurd (by decide) h)
          refine If.mk (fun _ => ?_) (fun h => absurd (by decide) h)
          refine If.mk (fun _ => ?_) (fun h => absurd (by decide) h)
          refine CallG.pure _ (known_call) ?_
          exact ⟨.inl rfl, FinG.mk _ rfl rfl rfl⟩
    · refine IfB.mk (fun _ => ?_) (fun e => by cases e)
      refine CallG.pure _ (known_call) ?_
      exact ⟨.inl rfl, FinG.mk _ rfl rfl rfl⟩
end Go.Vm

/-
  CuePlays: the row and its card. (Own work; printed by gen_law.py.)
-/
namespace Go.Proofs.YtdhdaadoehbopaaGreatDoor
open Go.Vm Go.ChangeShapes Go.WideShapes Go.ChangeAt Go.RowKit

set_option maxHeartbeats 8000000 in
set_option maxRecDepth 100000 in
theorem cuePlays_lifted (os : Os) (started : os.Started) (H : Type) (enc : TypeId × Value → H) :
    ReturnsInHanded {} Tryz.checked os 23 .any (fun w args => (Rows.cuePlaysSpec.pre enc Tryz.prog Tryz.f23 Rows.cuePlaysRow.domain false w args ∧ laidMetH Tryz.prog Rows.cuePlaysRow.laid w) ∧ sizedMet enc Tryz.prog Tryz.f23 (OpenSpec.ofChange Rows.cuePlaysSpec) false w args)
      (Rows.cuePlaysSpec.post enc Tryz.prog Tryz.f23 false true false false) := by
  refine returnsInHanded_of_change_and (C := Tryz.checked) (X := fun w _ => laidMetH Tryz.prog Rows.cuePlaysRow.laid w) (fun _ _ _ hh h => h.of_heap hh) own started (by kernel_rfl) Tryz.func23
    (ChangeSpec.witness_shaped (enc := enc) (C := Tryz.checked) (os := os) (X := fun w _ => laidMetH Tryz.prog Rows.cuePlaysRow.laid w) false (World.laidAll Tryz.prog os Rows.cuePlaysRow.laid) #[.agg #[.int .i64 0, .int .i64 0, .slice none 0 0], .int .i64 0, .slice none 0 0] 8 (World.laidAll_os _ _ _)
      (World.shaped_of_ZipB (by kernel_rfl) (by kernel_rfl)) (by kernel_rfl) (by kernel_rfl) (by kernel_rfl)
      (by rw [MakeChecks.laidMetH_plain _ _ _ (by kernel_rfl)]; exact laidMet_laidAll _ (by kernel_rfl) (by kernel_rfl))) ?_
  intro W base args ds gs before hval0 hW _ _ _ _
  have hval : ∀ (j : Nat) t v, Tryz.f23.params[j]? = some t → args[j]? = some v → Value.okWide Tryz.prog W .any base t v := hval0
  have hW' := hW
  obtain ⟨p, q, hA0, hV, rfl, _, _⟩ := hW
  have hA : DataW.TrodAll enc Tryz.prog W 0 (fun _ => true) true Tryz.f23.params.toList args.toList ds p := hA0
  rw [Tryz.params23] at hA hval
  obtain ⟨v0, v1, v2, d0, d1, d2, p0, p1, p2, rfl, rfl, rfl, h0, h1, h2⟩ := trodAll_three hA
  obtain ⟨rfl, rfl⟩ := trodVars_none hV
  obtain ⟨x0, r0, _⟩ := arg_book (hval 0 24 v0 rfl rfl) h0
  obtain ⟨x1, r1, _⟩ := arg_int (hval 1 3 v1 rfl rfl) h1
  obtain ⟨x2, r2, _⟩ := arg_ints (hval 2 25 v2 rfl rfl) h2
  refine (law_calls (c_cuePlays x0 x1 x2) (by simp only [VRels, and_true]; exact ⟨r0, r1, r2⟩)).mono ?_
  rintro e W' ⟨rfl, hk⟩
  exact ⟨_, rfl, law_post laidOut (by kernel_rfl) (by kernel_rfl) (by kernel_rfl) hW' rfl rfl hk⟩

theorem cuePlays_named : Tryz.pinned.checked.prog.funcNamed Rows.cuePlaysRow.func = some 23 := by kernel_rfl
theorem cuePlays_inst : Tryz.f23.isInstance Tryz.pinned.checked.prog Rows.cuePlaysRow.origin Rows.cuePlaysRow.targs := of_decide_eq_true (by kernel_rfl)
theorem cuePlays_wrap : Tryz.f23.isWrapper Tryz.pinned.checked.prog Rows.cuePlaysRow.wrapper Rows.cuePlaysRow.mainSum := by unfold Func.isWrapper; first | (rw [if_pos (by decide +kernel)]; kernel_rfl) | (rw [if_neg (by decide +kernel)]; exact ⟨rfl, rfl⟩)
set_option maxHeartbeats 8000000 in
theorem cuePlays_closed : joinedFacts Tryz.pinned.checked.prog 23 Tryz.f23 Rows.cuePlaysSpec Rows.cuePlaysRow = true := by
  unfold joinedFacts
  refine and_t (and_t (and_t (and_t (and_t (and_t (and_t (and_t (and_t (and_t (and_t (and_t (and_t (and_t (and_t (and_t (and_t (and_t (and_t (and_t (and_t (and_t (and_t (and_t (and_t (and_t (and_t (and_t (and_t (and_t (and_t ?_ ?_) ?_) ?_) ?_) ?_) ?_) ?_) ?_) ?_) ?_) ?_) ?_) ?_) ?_) ?_) ?_) ?_) ?_) ?_) ?_) ?_) ?_) ?_) ?_) ?_) ?_) ?_) ?_) ?_) ?_) ?_
  · as_aux_lemma => kernel_rfl
  · as_aux_lemma => kernel_rfl
  · as_aux_lemma => kernel_rfl
  · as_aux_lemma => kernel_rfl
  · as_aux_lemma => kernel_rfl
  · as_aux_lemma => kernel_rfl
  · as_aux_lemma => kernel_rfl
  · as_aux_lemma => kernel_rfl
  · as_aux_lemma => kernel_rfl
  · as_aux_lemma => kernel_rfl
  · as_aux_lemma => kernel_rfl
  · as_aux_lemma => kernel_rfl
  · as_aux_lemma => kernel_rfl
  · as_aux_lemma => kernel_rfl
  · as_aux_lemma => kernel_rfl
  · as_aux_lemma => kernel_rfl
  · as_aux_lemma => kernel_rfl
  · as_aux_lemma => kernel_rfl
  · as_aux_lemma => kernel_rfl
  · as_aux_lemma => kernel_rfl
  · as_aux_lemma => kernel_rfl
  · as_aux_lemma => kernel_rfl
  · as_aux_lemma => kernel_rfl
  · as_aux_lemma => kernel_rfl
  · as_aux_lemma => kernel_rfl
  · as_aux_lemma => kernel_rfl
  · as_aux_lemma => kernel_rfl
  · as_aux_lemma => kernel_rfl
  · as_aux_lemma => kernel_rfl
  · as_aux_lemma => kernel_rfl
  · as_aux_lemma => kernel_rfl
  · as_aux_lemma => kernel_rfl

theorem cuePlays_holds : Rows.CuePlaysSaid :=
  OpenClaim.holds_of_wide 23 Tryz.f23 rfl rfl rfl rfl rfl rfl rfl ⟨rfl, rfl, rfl, rfl, rfl⟩ rfl rfl rfl rfl rfl cuePlays_named Tryz.func23 cuePlays_closed cuePlays_inst cuePlays_wrap
    (fun os started H enc _ => cuePlays_lifted os started H enc)

set_option maxHeartbeats 8000000 in
theorem cuePlays_card : Rows.CuePlaysCardSaid :=
  Claim7.holds_tied_plain_at .later [] [.data, .data, .data, .data, .pinned] true (true, "d200c2f9484011b2fecf6d987098eee6f4d6857560912b686a09e1298a9b974d") true cuePlays_holds (fun _ h => by cases h) (by as_aux_lemma => kernel_rfl) (fun _ h => by cases h) cuePlays_row_tie rfl ⟨rfl, rfl⟩ (by as_aux_lemma => kernel_rfl) rfl
    (fun f fn hf hfn => by
      obtain rfl : f = 23 := Option.some.inj (cuePlays_named.symm.trans hf) |>.symm
      obtain rfl : fn = Tryz.f23 := (Option.some.inj (Tryz.func23.symm.trans hfn)).symm
      exact ⟨by as_aux_lemma => kernel_rfl, fun j t ht => by
        rw [Tryz.params23] at ht
        have hm : t ∈ [24, 3, 25] := by simpa using Array.mem_of_getElem? ht
        have hall : ([24, 3, 25].all fun u => !Tryz.prog.wantsStandIn u) = true := by kernel_rfl
        exact (show Tryz.prog.wantsStandIn t = false by simpa using List.all_eq_true.1 hall t hm)⟩)
    (by as_aux_lemma => kernel_rfl)
end Go.Proofs.YtdhdaadoehbopaaGreatDoor

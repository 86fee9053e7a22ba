/-
  The law CueMishears of package kelirlaw04 returns true for every input, and each argument reads afterwards as it read before: the tied card. Conditions: what the row lists of package-level variables, tied to the text of the program.
-/
import Derived.Test.YtdhdaadoehbopaaGreatDoorCe
import Derived.Test.YtdhdaadoehbopaaGreatDoorCc
import Derived.Test.YtdhdaadoehbopaaGreatDoorVk
import Derived.Test.YtdhdaadoehbopaaGreatDoorVr
import Derived.Test.YtdhdaadoehbopaaGreatDoorRows
import Derived.Test.YtdhdaadoehbopaaGreatDoorTie
import Derived.Test.YtdhdaadoehbopaaGreatDoorCards
import Derived.SevenTiedAt

/-
  CueMishears: its walk. (Own work.)
-/
namespace Go.Vm
open Go.Proofs


set_option maxHeartbeats 4000000 in
set_option maxRecDepth 100000 in
theorem c_cueMishears (b : Book) (version : Int) (cues tunes : List Int) (H : List Blk) : ACall Tryz.prog 18 [eBook b, n' version, eInts cues, eInts tunes] H (.ret (.lit (.bool true))) H := by
  refine fn_rule (m := false) (fn := Tryz.f18) (c := (Tryz.f18.body).getD .skip) mixed (by kernel_rfl) (by kernel_rfl) (of_decide_eq_true (by kernel_rfl)) ?_ ?_ ?_ H
  · exact ⟨under_eBook 0 _, trivial, under_eInts 0 _, under_eInts 0 _, trivial⟩
  · trivial
  · refine CallG.bool (c_short _) (fun hsh => ?_) (fun _ => ?_)
    · refine If.mk (fun h1 => ?_) (fun h1 => ?_)
      · refine IfB.mk (fun _ => ?_) (fun e => by cases e)
        refine CallG.pure _ (known_call) ?_
        exact ⟨.inl rfl, FinG.mk _ rfl rfl rfl⟩
      · refine If.mk (fun h2 => ?_) (fun h2 => ?_)
        · refine IfB.mk (fun _ => ?_) (fun e => by cases e)
          refine CallG.pure _ (known_call) ?_
          exact ⟨.inl rfl, FinG.mk _ rfl rfl rfl⟩
        · refine IfB.mk (fun e => by cases e) (fun _ => ?_)
          have hcl : cues.length < 4611686018427387904 := by omega
          have htl : tunes.length < 4611686018427387904 := by omega
          by_cases hP : BOk b ∧ inI version 0 (b.vs.length - 1) ∧ EvOk b (cues, tunes)
          · obtain ⟨h4, h5, h6⟩ := hP
            refine CallG.bool (c_book hsh.len) (fun _ => ?_) (fun x => absurd h4 x)
            refine CallG.bool (c_version h4.fit _) (fun _ => ?_) (fun x => absurd h5 x)
            refine CallG.bool (c_evening h4.fit (cues, tunes) hcl htl) (fun _ => ?_) (fun x => absurd h6 x)
            refine If.mk (fun h7 => ?_) (fun h7 => ?_)
            · refine IfB.mk (fun _ => ?_) (fun e => by cases e)
              refine CallG.pure _ (known_call) ?_
              exact ⟨.inl rfl, FinG.mk _ rfl rfl rfl⟩
            · refine IfB.mk (fun e => by cases e) (fun _ => ?_)
              have hi := h5
              unfold inI at hi
              obtain ⟨v, hv⟩ : ∃ v, b.vs[version.toNat]? = some v := ⟨_, List.getElem?_eq_getElem (by omega)⟩
              obtain ⟨hvo, hv0⟩ := (h4.2 v (List.mem_of_getElem? hv)).vers
              obtain ⟨⟨hcu, htu⟩, hct0⟩ := h6
              have hcu : LList b cues := hcu
              have htu : LTunes b tunes := htu
              have hct0 : (cues.length : Int) = tunes.length := hct0
              have hct : cues.length = tunes.length := by omega
              have hbc := h4.1.1
              unfold inI at hbc
              have hcc := fun H => c_misheard hsh.len h4 (by omega) hv hcu htu hct H
              have hrc := fun H => c_refMisheard hvo (by omega) hv0 hct (by omega) (heard_m1 htu) H
              rw [hitL_hitS, few_best hct (heard_m1 htu)] at hcc
              have hlen : ∀ p, fewL b.cues.toNat v 0 cues tunes = some p → p.1.length = tunes.length ∧ p.2 ≤ cues.length := fun p hp => few_le hct (heard_m1 htu) hp
              generalize fewL b.cues.toNat v 0 cues tunes = o at hcc hrc hlen
              cases o with
              | none =>
                refine CallG.pure _ (hcc) ?_
                refine IfB.mk (fun e => by cases e) (fun _ => ?_)
                refine Ex.mk _ (jx_versions (r := version.toNat) (by omega) hv) ?_
                refine Ex.mk _ rfl ?_
                refine CallG.pure _ (hrc) ?_
                refine If.mk (fun _ => ?_) (fun h => absurd (by decide) h)
                refine IfB.mk (fun _ => ?_) (fun e => by cases e)
                refine If.mk (fun _ => ?_) (fun h => absurd (by decide) h)
                refine If.mk (fun _ => ?_) (fun h => absurd (by decide) h)
                refine If.mk (fun _ => ?_) (fun h => absurd (by decide) h)
                refine CallG.pure _ (known_call) ?_
                exact ⟨.inl rfl, FinG.mk _ rfl rfl rfl⟩
              | some p =>
                obtain ⟨hp1, _⟩ := hlen p rfl
                refine CallG.pure _ (hcc) ?_
                refine IfB.mk (fun e => by cases e) (fun _ => ?_)
                refine Ex.mk _ (jx_versions (r := version.toNat) (by omega) hv) ?_
                refine Ex.mk _ rfl ?_
                refine CallG.pure _ (hrc) ?_
                refine If.mk (fun h => absurd h (by show ¬ ((p.2 : Int) < 0); omega)) (fun _ => ?_)
                refine IfB.mk (fun e => by cases e) (fun _ => ?_)
                refine If.mk (fun _ => ?_) (fun h => absurd (by decide) h)
                refine CallG.bool (c_same p.1 p.1 (by omega)) (fun _ => ?_) (fun x => absurd rfl x)
                refine If.mk (fun _ => ?_) (fun h => absurd rfl h)
                refine CallG.pure _ (known_call) ?_
                exact ⟨.inl rfl, FinG.mk _ rfl rfl rfl⟩
          · refine CallG.bool (c_book hsh.len) (fun h4 => ?_) (fun _ => ?_)
            · refine CallG.bool (c_version h4.fit _) (fun h5 => ?_) (fun _ => ?_)
              · refine CallG.bool (c_evening h4.fit (cues, tunes) hcl htl) (fun h6 => absurd ⟨h4, h5, h6⟩ hP) (fun _ => ?_)
                refine IfB.mk (fun e => by cases e) (fun _ => ?_)
                refine CallG.pure _ (c_misheard_no hsh.len version cues tunes hcl htl hP) ?_
                refine IfB.mk (fun _ => ?_) (fun e => by cases e)
                refine If.mk (fun _ => ?_) (fun h => absurd (by decide) h)
                refine If.mk (fun _ => ?_) (fun h => absurd (by decide) h)
                refine If.mk (fun _ => ?_) (fun h => absurd (by decide) h)
                refine CallG.pure _ (known_call) ?_
                exact ⟨.inl rfl, FinG.mk _ rfl rfl rfl⟩
              · refine IfB.mk (fun e => by cases e) (fun _ => ?_)
                refine CallG.pure _ (c_misheard_no hsh.len version cues tunes hcl htl hP) ?_
                refine IfB.mk (fun _ => ?_) (fun e => by cases e)
                refine If.mk (fun _ => ?_) (fun h => absurd (by decide) h)
                refine If.mk (fun _ => ?_) (fun h => absurd (by decide) h)
                refine If.mk (fun _ => ?_) (fun h => absurd (by decide) h)
                refine CallG.pure _ (known_call) ?_
                exact ⟨.inl rfl, FinG.mk _ rfl rfl rfl⟩
            · refine IfB.mk (fun e => by cases e) (fun _ => ?_)
              refine CallG.pure _ (c_misheard_no hsh.len version cues tunes hcl htl hP) ?_
              refine IfB.mk (fun _ => ?_) (fun e => by cases e)
              refine If.mk (fun _ => ?_) (fun h => absurd (by decide) h)
              refine If.mk (fun _ => ?_) (fun h => absurd (by decide) h)
              refine If.mk (fun _ => ?_) (fun h => absurd (by decide) h)
              refine CallG.pure _ (known_call) ?_
              exact ⟨.inl rfl, FinG.mk _ rfl rfl rfl⟩
    · refine IfB.mk (fun _ => ?_) (fun e => by cases e)
      refine CallG.pure _ (known_call) ?_
      exact ⟨.inl rfl, FinG.mk _ rfl rfl rfl⟩
end Go.Vm

/-
  CueMishears: the row and its card. (Own work; printed by gen_law.py.)
-/

namespace Go.Proofs.YtdhdaadoehbopaaGreatDoor
open Go.Vm Go.ChangeShapes Go.WideShapes Go.ChangeAt Go.RowKit

set_option maxHeartbeats 8000000 in
set_option maxRecDepth 100000 in
theorem cueMishears_lifted (os : Os) (started : os.Started) (H : Type) (enc : TypeId × Value → H) :
    ReturnsInHanded {} Tryz.checked os 18 .any (fun w args => (Rows.cueMishearsSpec.pre enc Tryz.prog Tryz.f18 Rows.cueMishearsRow.domain false w args ∧ laidMetH Tryz.prog Rows.cueMishearsRow.laid w) ∧ sizedMet enc Tryz.prog Tryz.f18 (OpenSpec.ofChange Rows.cueMishearsSpec) false w args)
      (Rows.cueMishearsSpec.post enc Tryz.prog Tryz.f18 false true false false) := by
  refine returnsInHanded_of_change_and (C := Tryz.checked) (X := fun w _ => laidMetH Tryz.prog Rows.cueMishearsRow.laid w) (fun _ _ _ hh h => h.of_heap hh) own started (by kernel_rfl) Tryz.func18
    (ChangeSpec.witness_shaped (enc := enc) (C := Tryz.checked) (os := os) (X := fun w _ => laidMetH Tryz.prog Rows.cueMishearsRow.laid w) false (World.laidAll Tryz.prog os Rows.cueMishearsRow.laid) #[.agg #[.int .i64 0, .int .i64 0, .slice none 0 0], .int .i64 0, .slice none 0 0, .slice none 0 0] 8 (World.laidAll_os _ _ _)
      (World.shaped_of_ZipB (by kernel_rfl) (by kernel_rfl)) (by kernel_rfl) (by kernel_rfl) (by kernel_rfl)
      (by rw [MakeChecks.laidMetH_plain _ _ _ (by kernel_rfl)]; exact laidMet_laidAll _ (by kernel_rfl) (by kernel_rfl))) ?_
  intro W base args ds gs before hval0 hW _ _ _ _
  have hval : ∀ (j : Nat) t v, Tryz.f18.params[j]? = some t → args[j]? = some v → Value.okWide Tryz.prog W .any base t v := hval0
  have hW' := hW
  obtain ⟨p, q, hA0, hV, rfl, _, _⟩ := hW
  have hA : DataW.TrodAll enc Tryz.prog W 0 (fun _ => true) true Tryz.f18.params.toList args.toList ds p := hA0
  rw [Tryz.params18] at hA hval
  obtain ⟨v0, v1, v2, v3, d0, d1, d2, d3, p0, p1, p2, p3, rfl, rfl, rfl, h0, h1, h2, h3⟩ := trodAll_four hA
  obtain ⟨rfl, rfl⟩ := trodVars_none hV
  obtain ⟨x0, r0, _⟩ := arg_book (hval 0 24 v0 rfl rfl) h0
  obtain ⟨x1, r1, _⟩ := arg_int (hval 1 3 v1 rfl rfl) h1
  obtain ⟨x2, r2, _⟩ := arg_ints (hval 2 25 v2 rfl rfl) h2
  obtain ⟨x3, r3, _⟩ := arg_ints (hval 3 25 v3 rfl rfl) h3
  refine (law_calls (c_cueMishears x0 x1 x2 x3) (by simp only [VRels, and_true]; exact ⟨r0, r1, r2, r3⟩)).mono ?_
  rintro e W' ⟨rfl, hk⟩
  exact ⟨_, rfl, law_post laidOut (by kernel_rfl) (by kernel_rfl) (by kernel_rfl) hW' rfl rfl hk⟩

theorem cueMishears_named : Tryz.pinned.checked.prog.funcNamed Rows.cueMishearsRow.func = some 18 := by kernel_rfl
theorem cueMishears_inst : Tryz.f18.isInstance Tryz.pinned.checked.prog Rows.cueMishearsRow.origin Rows.cueMishearsRow.targs := of_decide_eq_true (by kernel_rfl)
theorem cueMishears_wrap : Tryz.f18.isWrapper Tryz.pinned.checked.prog Rows.cueMishearsRow.wrapper Rows.cueMishearsRow.mainSum := by unfold Func.isWrapper; first | (rw [if_pos (by decide +kernel)]; kernel_rfl) | (rw [if_neg (by decide +kernel)]; exact ⟨rfl, rfl⟩)
set_option maxHeartbeats 8000000 in
theorem cueMishears_closed : joinedFacts Tryz.pinned.checked.prog 18 Tryz.f18 Rows.cueMishearsSpec Rows.cueMishearsRow = true := by
  unfold joinedFacts
  refine and_t (and_t (and_t (and_t (and_t (and_t (and_t (and_t (and_t (and_t (and_t (and_t (and_t (and_t (and_t (and_t (and_t (and_t (and_t (and_t (and_t (and_t (and_t (and_t (and_t (and_t (and_t (and_t (and_t (and_t (and_t ?_ ?_) ?_) ?_) ?_) ?_) ?_) ?_) ?_) ?_) ?_) ?_) ?_) ?_) ?_) ?_) ?_) ?_) ?_) ?_) ?_) ?_) ?_) ?_) ?_) ?_) ?_) ?_) ?_) ?_) ?_) ?_
  · as_aux_lemma => kernel_rfl
  · as_aux_lemma => kernel_rfl
  · as_aux_lemma => kernel_rfl
  · as_aux_lemma => kernel_rfl
  · as_aux_lemma => kernel_rfl
  · as_aux_lemma => kernel_rfl
  · as_aux_lemma => kernel_rfl
  · as_aux_lemma => kernel_rfl
  · as_aux_lemma => kernel_rfl
  · as_aux_lemma => kernel_rfl
  · as_aux_lemma => kernel_rfl
  · as_aux_lemma => kernel_rfl
  · as_aux_lemma => kernel_rfl
  · as_aux_lemma => kernel_rfl
  · as_aux_lemma => kernel_rfl
  · as_aux_lemma => kernel_rfl
  · as_aux_lemma => kernel_rfl
  · as_aux_lemma => kernel_rfl
  · as_aux_lemma => kernel_rfl
  · as_aux_lemma => kernel_rfl
  · as_aux_lemma => kernel_rfl
  · as_aux_lemma => kernel_rfl
  · as_aux_lemma => kernel_rfl
  · as_aux_lemma => kernel_rfl
  · as_aux_lemma => kernel_rfl
  · as_aux_lemma => kernel_rfl
  · as_aux_lemma => kernel_rfl
  · as_aux_lemma => kernel_rfl
  · as_aux_lemma => kernel_rfl
  · as_aux_lemma => kernel_rfl
  · as_aux_lemma => kernel_rfl
  · as_aux_lemma => kernel_rfl

theorem cueMishears_holds : Rows.CueMishearsSaid :=
  OpenClaim.holds_of_wide 18 Tryz.f18 rfl rfl rfl rfl rfl rfl rfl ⟨rfl, rfl, rfl, rfl, rfl⟩ rfl rfl rfl rfl rfl cueMishears_named Tryz.func18 cueMishears_closed cueMishears_inst cueMishears_wrap
    (fun os started H enc _ => cueMishears_lifted os started H enc)

set_option maxHeartbeats 8000000 in
theorem cueMishears_card : Rows.CueMishearsCardSaid :=
  Claim7.holds_tied_plain_at .later [] [.data, .data, .data, .data, .pinned] true (true, "d200c2f9484011b2fecf6d987098eee6f4d6857560912b686a09e1298a9b974d") true cueMishears_holds (fun _ h => by cases h) (by as_aux_lemma => kernel_rfl) (fun _ h => by cases h) cueMishears_row_tie rfl ⟨rfl, rfl⟩ (by as_aux_lemma => kernel_rfl) rfl
    (fun f fn hf hfn => by
      obtain rfl : f = 18 := Option.some.inj (cueMishears_named.symm.trans hf) |>.symm
      obtain rfl : fn = Tryz.f18 := (Option.some.inj (Tryz.func18.symm.trans hfn)).symm
      exact ⟨by as_aux_lemma => kernel_rfl, fun j t ht => by
        rw [Tryz.params18] at ht
        have hm : t ∈ [24, 3, 25, 25] := by simpa using Array.mem_of_getElem? ht
        have hall : ([24, 3, 25, 25].all fun u => !Tryz.prog.wantsStandIn u) = true := by kernel_rfl
        exact (show Tryz.prog.wantsStandIn t = false by simpa using List.all_eq_true.1 hall t hm)⟩)
    (by as_aux_lemma => kernel_rfl)
end Go.Proofs.YtdhdaadoehbopaaGreatDoor

/-
  The law CueHeard of package kelirlaw04 returns true for every input, and each argument reads afterwards as it read before: the tied card. Conditions: what the row lists of package-level variables, tied to the text of the program.
-/
import Derived.Test.YtdhdaadoehbopaaGreatDoorCe
import Derived.Test.YtdhdaadoehbopaaGreatDoorCd
import Derived.Test.YtdhdaadoehbopaaGreatDoorCc
import Derived.Test.YtdhdaadoehbopaaGreatDoorVk
import Derived.Test.YtdhdaadoehbopaaGreatDoorVr
import Derived.Test.YtdhdaadoehbopaaGreatDoorCb
import Derived.Test.YtdhdaadoehbopaaGreatDoorRows
import Derived.Test.YtdhdaadoehbopaaGreatDoorTie
import Derived.Test.YtdhdaadoehbopaaGreatDoorCards
import Derived.SevenTiedAt

/-
  CueHeard: its walk. (Own work.)
-/
namespace Go.Vm
open Go.Proofs


set_option maxHeartbeats 8000000 in
set_option maxRecDepth 100000 in
theorem c_cueHeard (b : Book) (version : Int) (cues tunes other : List Int) (H : List Blk) : ACall Tryz.prog 19 [eBook b, n' version, eInts cues, eInts tunes, eInts other] H (.ret (.lit (.bool true))) H := by
  refine fn_rule (m := false) (fn := Tryz.f19) (c := (Tryz.f19.body).getD .skip) mixed (by kernel_rfl) (by kernel_rfl) (of_decide_eq_true (by kernel_rfl)) ?_ ?_ ?_ H
  · exact ⟨under_eBook 0 _, trivial, under_eInts 0 _, under_eInts 0 _, under_eInts 0 _, trivial⟩
  · trivial
  · refine CallG.wbool (.cons (fun H => WeakH.refl _ H) (.cons wk_nilE .nil)) (c_right b []) (fun hR => ?_) (fun _ => ?_)
    · obtain ⟨⟨⟨hsh, _⟩, hB⟩, _⟩ := hR
      refine CallG.bool (c_version hB.fit _) (fun h2 => ?_) (fun _ => ?_)
      · refine If.mk (fun h3 => ?_) (fun h3 => ?_)
        · refine IfB.mk (fun _ => ?_) (fun e => by cases e)
          refine CallG.pure _ (known_call) ?_
          exact ⟨.inl rfl, FinG.mk _ rfl rfl rfl⟩
        · refine If.mk (fun h4 => ?_) (fun h4 => ?_)
          · refine IfB.mk (fun _ => ?_) (fun e => by cases e)
            refine CallG.pure _ (known_call) ?_
            exact ⟨.inl rfl, FinG.mk _ rfl rfl rfl⟩
          · refine If.mk (fun h5 => ?_) (fun h5 => ?_)
            · refine CallG.bool (c_evening hB.fit (cues, tunes) (by show cues.length < _; omega) (by show tunes.length < _; omega)) (fun hE => ?_) (fun _ => ?_)
              · refine CallG.bool (c_list hB.fit _ (by omega)) (fun hO => ?_) (fun _ => ?_)
                · refine IfB.mk (fun e => by cases e) (fun _ => ?_)
                  obtain ⟨⟨hcu, ht⟩, hct0⟩ := hE
                  have hcu : LList b cues := hcu
                  have ht : LTunes b tunes := ht
                  have hct0 : (cues.length : Int) = tunes.length := hct0
                  have hct : cues.length = tunes.length := by omega
                  have h2' := h2
                  unfold inI at h2'
                  obtain ⟨v, hv⟩ : ∃ v, b.vs[version.toNat]? = some v := ⟨_, List.getElem?_eq_getElem (by omega)⟩
                  have hV := hB.2 v (List.mem_of_getElem? hv)
                  obtain ⟨hvo, hv0⟩ := hV.vers
                  have htl := ht.2
                  have hbc := hB.1.1
                  unfold inI at hbc
                  have hcm := fun H => c_misheard hsh.len hB (by omega) hv hcu ht hct H
                  have hcc := fun H => c_count hsh.len hB (by omega) hv ht H
                  have hom : Noted (plays v 0 other) tunes → other ∈ hitS b.cues.toNat v 0 tunes := fun h => hitS_mem.2 ⟨⟨by omega, (hO.cues (by omega)).1⟩, h⟩
                  rw [hitL_hitS] at hcm hcc
                  cases ho : bestOf (apartN cues) (hitS b.cues.toNat v 0 tunes) with
                  | none =>
                    have hF := (best_isSome _).1 ho
                    rw [ho] at hcm
                    rw [hF] at hcc hom
                    refine CallG.pure _ (hcm) ?_
                    refine CallG.pure _ (hcc) ?_
                    refine CallG.pure _ (c_plays_ok hsh.len hB h2.1 hv hO) ?_
                    refine If.mk (fun _ => ?_) (fun h => absurd (by decide) h)
                    refine If.mk (fun _ => ?_) (fun h => absurd (by decide) h)
                    refine If.mk (fun h => absurd h (by decide)) (fun _ => ?_)
                    refine If.mk (fun _ => ?_) (fun h => absurd (by decide) h)
                    refine IfB.mk (fun e => by cases e) (fun _ => ?_)
                    refine CallG.bool (c_fits _ _ (by rw [plays_length]; omega) (by omega) (heard_m1 ht)) (fun hN => ?_) (fun hN => ?_)
                    · cases (hom hN)
                    · refine If.mk (fun h => absurd h (by decide)) (fun _ => ?_)
                      refine IfB.mk (fun _ => ?_) (fun e => by cases e)
                      refine CallG.pure _ (known_call) ?_
                      exact ⟨.inl rfl, FinG.mk _ rfl rfl rfl⟩
                  | some p =>
                    have hfst := fun h => best_first ho (hom h)
                    obtain ⟨hpm, hpe⟩ := best_eq ho
                    obtain ⟨q, m⟩ := p
                    have hpe : m = apartN cues q := hpe
                    obtain ⟨⟨hXl, hXc⟩, hXN⟩ := hitS_mem.1 hpm
                    have hXl : q.length = tunes.length := hXl
                    have hXN : Noted (plays v 0 q) tunes := hXN
                    have hX : LList b q := ⟨by omega, fun c hc => by have := hXc c hc; unfold inI; omega⟩
                    rw [ho] at hcm
                    cases hF : hitS b.cues.toNat v 0 tunes with
                    | nil => rw [hF] at hpm; cases hpm
                    | cons x L =>
                      rw [hF] at hcc
                      refine CallG.pure _ (hcm) ?_
                      refine CallG.pure _ (hcc) ?_
                      refine CallG.pure _ (c_plays_ok hsh.len hB h2.1 hv hO) ?_
                      refine If.mk (fun _ => ?_) (fun h => absurd (by decide) h)
                      refine If.mk (fun _ => ?_) (fun h => absurd (by decide) h)
                      refine If.mk (fun _ => ?_) (fun h => absurd (by decide) h)
                      refine IfB.mk (fun e => by cases e) (fun _ => ?_)
                      refine CallG.bool (c_fits _ _ (by rw [plays_length]; omega) (by omega) (heard_m1 ht)) (fun hN => ?_) (fun hN => ?_)
                      · obtain ⟨hf1, hf2⟩ := hfst hN
                        have hf1 : m ≤ apartN cues other := hf1
                        have hf2 : apartN cues other = m → ¬ LBefore other q := hf2
                        refine If.mk (fun _ => ?_) (fun h => absurd (by decide) h)
                        refine IfB.mk (fun e => by cases e) (fun _ => ?_)
                        refine CallG.pure _ (c_plays_ok hsh.len hB h2.1 hv hX) ?_
                        refine If.mk (fun _ => ?_) (fun h => absurd (by decide) h)
                        refine If.mk (fun _ => ?_) (fun h => absurd (by omega) h)
                        refine CallG.bool (c_fits _ _ (by rw [plays_length]; omega) (by omega) (heard_m1 ht)) (fun _ => ?_) (fun h => absurd hXN h)
                        refine CallG.pure _ (c_apart (a := q) (b := cues) (by omega) (by omega)) ?_
                        refine If.mk (fun _ => ?_) (fun h => absurd (by rw [hpe]) h)
                        refine IfB.mk (fun e => by cases e) (fun _ => ?_)
                        refine CallG.pure _ (c_apart (a := other) (b := cues) (by omega) (by omega)) ?_
                        refine If.mk (fun h8 => ?_) (fun h8 => ?_)
                        · refine CallG.pure _ (known_call) ?_
                          exact ⟨.inl rfl, FinG.mk _ rfl rfl rfl⟩
                        · have h8' : ¬ ((m : Int) < (apartN cues other : Nat)) := h8
                          refine If.mk (fun h9 => ?_) (fun h9 => ?_)
                          · refine CallG.bool (c_before _ _ (by omega)) (fun hb => absurd hb (hf2 (by omega))) (fun _ => ?_)
                            refine CallG.pure _ (known_call) ?_
                            exact ⟨.inl rfl, FinG.mk _ rfl rfl rfl⟩
                          · exact absurd (by show ((apartN cues other : Nat) : Int) = (m : Nat); omega) h9
                      · refine If.mk (fun _ => ?_) (fun h => absurd (by decide) h)
                        refine IfB.mk (fun e => by cases e) (fun _ => ?_)
                        refine CallG.pure _ (c_plays_ok hsh.len hB h2.1 hv hX) ?_
                        refine If.mk (fun _ => ?_) (fun h => absurd (by decide) h)
                        refine If.mk (fun _ => ?_) (fun h => absurd (by omega) h)
                        refine CallG.bool (c_fits _ _ (by rw [plays_length]; omega) (by omega) (heard_m1 ht)) (fun _ => ?_) (fun h => absurd hXN h)
                        refine CallG.pure _ (c_apart (a := q) (b := cues) (by omega) (by omega)) ?_
                        refine If.mk (fun _ => ?_) (fun h => absurd (by rw [hpe]) h)
                        refine IfB.mk (fun e => by cases e) (fun _ => ?_)
                        refine CallG.pure _ (c_apart (a := other) (b := cues) (by omega) (by omega)) ?_
                        refine CallG.pure _ (known_call) ?_
                        exact ⟨.inl rfl, FinG.mk _ rfl rfl rfl⟩
                · refine IfB.mk (fun _ => ?_) (fun e => by cases e)
                  refine CallG.pure _ (known_call) ?_
                  exact ⟨.inl rfl, FinG.mk _ rfl rfl rfl⟩
              · refine IfB.mk (fun _ => ?_) (fun e => by cases e)
                refine CallG.pure _ (known_call) ?_
                exact ⟨.inl rfl, FinG.mk _ rfl rfl rfl⟩
            · refine IfB.mk (fun _ => ?_) (fun e => by cases e)
              refine CallG.pure _ (known_call) ?_
              exact ⟨.inl rfl, FinG.mk _ rfl rfl rfl⟩
      · refine IfB.mk (fun _ => ?_) (fun e => by cases e)
        refine CallG.pure _ (known_call) ?_
        exact ⟨.inl rfl, FinG.mk _ rfl rfl rfl⟩
    · refine IfB.mk (fun _ => ?_) (fun e => by cases e)
      refine CallG.pure _ (known_call) ?_
      exact ⟨.inl rfl, FinG.mk _ rfl rfl rfl⟩
end Go.Vm

/-
  CueHeard: the row and its card. (Own work; printed by gen_law.py.)
-/

namespace Go.Proofs.YtdhdaadoehbopaaGreatDoor
open Go.Vm Go.ChangeShapes Go.WideShapes Go.ChangeAt Go.RowKit

set_option maxHeartbeats 8000000 in
set_option maxRecDepth 100000 in
theorem cueHeard_lifted (os : Os) (started : os.Started) (H : Type) (enc : TypeId × Value → H) :
    ReturnsInHanded {} Tryz.checked os 19 .any (fun w args => (Rows.cueHeardSpec.pre enc Tryz.prog Tryz.f19 Rows.cueHeardRow.domain false w args ∧ laidMetH Tryz.prog Rows.cueHeardRow.laid w) ∧ sizedMet enc Tryz.prog Tryz.f19 (OpenSpec.ofChange Rows.cueHeardSpec) false w args)
      (Rows.cueHeardSpec.post enc Tryz.prog Tryz.f19 false true false false) := by
  refine returnsInHanded_of_change_and (C := Tryz.checked) (X := fun w _ => laidMetH Tryz.prog Rows.cueHeardRow.laid w) (fun _ _ _ hh h => h.of_heap hh) own started (by kernel_rfl) Tryz.func19
    (ChangeSpec.witness_shaped (enc := enc) (C := Tryz.checked) (os := os) (X := fun w _ => laidMetH Tryz.prog Rows.cueHeardRow.laid w) false (World.laidAll Tryz.prog os Rows.cueHeardRow.laid) #[.agg #[.int .i64 0, .int .i64 0, .slice none 0 0], .int .i64 0, .slice none 0 0, .slice none 0 0, .slice none 0 0] 8 (World.laidAll_os _ _ _)
      (World.shaped_of_ZipB (by kernel_rfl) (by kernel_rfl)) (by kernel_rfl) (by kernel_rfl) (by kernel_rfl)
      (by rw [MakeChecks.laidMetH_plain _ _ _ (by kernel_rfl)]; exact laidMet_laidAll _ (by kernel_rfl) (by kernel_rfl))) ?_
  intro W base args ds gs before hval0 hW _ _ _ _
  have hval : ∀ (j : Nat) t v, Tryz.f19.params[j]? = some t → args[j]? = some v → Value.okWide Tryz.prog W .any base t v := hval0
  have hW' := hW
  obtain ⟨p, q, hA0, hV, rfl, _, _⟩ := hW
  have hA : DataW.TrodAll enc Tryz.prog W 0 (fun _ => true) true Tryz.f19.params.toList args.toList ds p := hA0
  rw [Tryz.params19] at hA hval
  obtain ⟨v0, v1, v2, v3, v4, d0, d1, d2, d3, d4, p0, p1, p2, p3, p4, rfl, rfl, rfl, h0, h1, h2, h3, h4⟩ := trodAll_five hA
  obtain ⟨rfl, rfl⟩ := trodVars_none hV
  obtain ⟨x0, r0, _⟩ := arg_book (hval 0 24 v0 rfl rfl) h0
  obtain ⟨x1, r1, _⟩ := arg_int (hval 1 3 v1 rfl rfl) h1
  obtain ⟨x2, r2, _⟩ := arg_ints (hval 2 25 v2 rfl rfl) h2
  obtain ⟨x3, r3, _⟩ := arg_ints (hval 3 25 v3 rfl rfl) h3
  obtain ⟨x4, r4, _⟩ := arg_ints (hval 4 25 v4 rfl rfl) h4
  refine (law_calls (c_cueHeard x0 x1 x2 x3 x4) (by simp only [VRels, and_true]; exact ⟨r0, r1, r2, r3, r4⟩)).mono ?_
  rintro e W' ⟨rfl, hk⟩
  exact ⟨_, rfl, law_post laidOut (by kernel_rfl) (by kernel_rfl) (by kernel_rfl) hW' rfl rfl hk⟩

theorem cueHeard_named : Tryz.pinned.checked.prog.funcNamed Rows.cueHeardRow.func = some 19 := by kernel_rfl
theorem cueHeard_inst : Tryz.f19.isInstance Tryz.pinned.checked.prog Rows.cueHeardRow.origin Rows.cueHeardRow.targs := of_decide_eq_true (by kernel_rfl)
theorem cueHeard_wrap : Tryz.f19.isWrapper Tryz.pinned.checked.prog Rows.cueHeardRow.wrapper Rows.cueHeardRow.mainSum := by unfold Func.isWrapper; first | (rw [if_pos (by decide +kernel)]; kernel_rfl) | (rw [if_neg (by decide +kernel)]; exact ⟨rfl, rfl⟩)
set_option maxHeartbeats 8000000 in
theorem cueHeard_closed : joinedFacts Tryz.pinned.checked.prog 19 Tryz.f19 Rows.cueHeardSpec Rows.cueHeardRow = true := by
  unfold joinedFacts
  refine and_t (and_t (and_t (and_t (and_t (and_t (and_t (and_t (and_t (and_t (and_t (and_t (and_t (and_t (and_t (and_t (and_t (and_t (and_t (and_t (and_t (and_t (and_t (and_t (and_t (and_t (and_t (and_t (and_t (and_t (and_t ?_ ?_) ?_) ?_) ?_) ?_) ?_) ?_) ?_) ?_) ?_) ?_) ?_) ?_) ?_) ?_) ?_) ?_) ?_) ?_) ?_) ?_) ?_) ?_) ?_) ?_) ?_) ?_) ?_) ?_) ?_) ?_
  · as_aux_lemma => kernel_rfl
  · as_aux_lemma => kernel_rfl
  · as_aux_lemma => kernel_rfl
  · as_aux_lemma => kernel_rfl
  · as_aux_lemma => kernel_rfl
  · as_aux_lemma => kernel_rfl
  · as_aux_lemma => kernel_rfl
  · as_aux_lemma => kernel_rfl
  · as_aux_lemma => kernel_rfl
  · as_aux_lemma => kernel_rfl
  · as_aux_lemma => kernel_rfl
  · as_aux_lemma => kernel_rfl
  · as_aux_lemma => kernel_rfl
  · as_aux_lemma => kernel_rfl
  · as_aux_lemma => kernel_rfl
  · as_aux_lemma => kernel_rfl
  · as_aux_lemma => kernel_rfl
  · as_aux_lemma => kernel_rfl
  · as_aux_lemma => kernel_rfl
  · as_aux_lemma => kernel_rfl
  · as_aux_lemma => kernel_rfl
  · as_aux_lemma => kernel_rfl
  · as_aux_lemma => kernel_rfl
  · as_aux_lemma => kernel_rfl
  · as_aux_lemma => kernel_rfl
  · as_aux_lemma => kernel_rfl
  · as_aux_lemma => kernel_rfl
  · as_aux_lemma => kernel_rfl
  · as_aux_lemma => kernel_rfl
  · as_aux_lemma => kernel_rfl
  · as_aux_lemma => kernel_rfl
  · as_aux_lemma => kernel_rfl

theorem cueHeard_holds : Rows.CueHeardSaid :=
  OpenClaim.holds_of_wide 19 Tryz.f19 rfl rfl rfl rfl rfl rfl rfl ⟨rfl, rfl, rfl, rfl, rfl⟩ rfl rfl rfl rfl rfl cueHeard_named Tryz.func19 cueHeard_closed cueHeard_inst cueHeard_wrap
    (fun os started H enc _ => cueHeard_lifted os started H enc)

set_option maxHeartbeats 8000000 in
theorem cueHeard_card : Rows.CueHeardCardSaid :=
  Claim7.holds_tied_plain_at .later [] [.data, .data, .data, .data, .pinned] true (true, "d200c2f9484011b2fecf6d987098eee6f4d6857560912b686a09e1298a9b974d") true cueHeard_holds (fun _ h => by cases h) (by as_aux_lemma => kernel_rfl) (fun _ h => by cases h) cueHeard_row_tie rfl ⟨rfl, rfl⟩ (by as_aux_lemma => kernel_rfl) rfl
    (fun f fn hf hfn => by
      obtain rfl : f = 19 := Option.some.inj (cueHeard_named.symm.trans hf) |>.symm
      obtain rfl : fn = Tryz.f19 := (Option.some.inj (Tryz.func19.symm.trans hfn)).symm
      exact ⟨by as_aux_lemma => kernel_rfl, fun j t ht => by
        rw [Tryz.params19] at ht
        have hm : t ∈ [24, 3, 25, 25, 25] := by simpa using Array.mem_of_getElem? ht
        have hall : ([24, 3, 25, 25, 25].all fun u => !Tryz.prog.wantsStandIn u) = true := by kernel_rfl
        exact (show Tryz.prog.wantsStandIn t = false by simpa using List.all_eq_true.1 hall t hm)⟩)
    (by as_aux_lemma => kernel_rfl)
end Go.Proofs.YtdhdaadoehbopaaGreatDoor

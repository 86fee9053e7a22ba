/-
  The law CueTells of package kelirlaw04 returns true for every input, and each argument reads afterwards as it read before: the tied card. Conditions: what the row lists of package-level variables, tied to the text of the program.
-/
import Derived.Test.YtdhdaadoehbopaaGreatDoorCp
import Derived.Test.YtdhdaadoehbopaaGreatDoorVk
import Derived.Test.YtdhdaadoehbopaaGreatDoorVr
import Derived.Test.YtdhdaadoehbopaaGreatDoorRows
import Derived.Test.YtdhdaadoehbopaaGreatDoorTie
import Derived.Test.YtdhdaadoehbopaaGreatDoorCards
import Derived.SevenTiedAt

/-
  CueTells: its walk. (Own work.)
-/
namespace Go.Vm
open Go.Proofs


set_option maxHeartbeats 4000000 in
set_option maxRecDepth 100000 in
theorem c_cueTells (b : Book) (one other : Int) (H : List Blk) : ACall Tryz.prog 8 [eBook b, n' one, n' other] H (.ret (.lit (.bool true))) H := by
  refine fn_rule (m := false) (fn := Tryz.f8) (c := (Tryz.f8.body).getD .skip) mixed (by kernel_rfl) (by kernel_rfl) (of_decide_eq_true (by kernel_rfl)) ?_ ?_ ?_ H
  · exact ⟨under_eBook 0 _, trivial, trivial, trivial⟩
  · trivial
  · refine CallG.bool (c_short _) (fun hsh => ?_) (fun _ => ?_)
    · refine IfB.mk (fun e => by cases e) (fun _ => ?_)
      by_cases hG : BOk b ∧ inI one 0 (b.vs.length - 1) ∧ inI other 0 (b.vs.length - 1)
      · obtain ⟨hB, h2, h3⟩ := hG
        have hi := h2
        have hj := h3
        have hbc := hB.1.1
        unfold inI at hi hj hbc
        obtain ⟨v, hv⟩ : ∃ v, b.vs[one.toNat]? = some v := ⟨_, List.getElem?_eq_getElem (by omega)⟩
        obtain ⟨w, hw⟩ : ∃ w, b.vs[other.toNat]? = some w := ⟨_, List.getElem?_eq_getElem (by omega)⟩
        have hV := hB.2 v (List.mem_of_getElem? hv)
        have hW := hB.2 w (List.mem_of_getElem? hw)
        have ht := fun H => c_tellD hsh.len hB h2 h3 hv hw H
        have hr := fun H => c_refTell b hV.vers.1 hW.vers.1 (show b.cues.toNat ≤ 4 by omega) hV.2 hW.2 H
        have hlen : (dT v w b.cues.toNat 0 0).length ≤ 16 := by
          have hv4 := hV.2
          have hw4 := hW.2
          unfold inI at hv4 hw4
          by_cases h : dT v w b.cues.toNat 0 0 = []
          · rw [h]; simp
          · have := ((dF_ok hV.vers.1 hW.vers.1 (v.length * w.length) 0 0 hV.vers.2 hW.vers.2).yes h).2.2.1
            have h4 : v.length * w.length ≤ 4 * 4 := Nat.mul_le_mul (by omega) (by omega)
            show (dF v w b.cues.toNat (v.length * w.length) 0 0).length ≤ 16
            omega
        generalize dT v w b.cues.toNat 0 0 = l at ht hr hlen
        have hcl := cuesI_length l
        cases l with
        | nil =>
          refine CallG.pure _ (ht) ?_
          refine CallG.bool (c_book hsh.len) (fun _ => ?_) (fun x => absurd hB x)
          refine CallG.bool (c_version hB.fit _) (fun _ => ?_) (fun x => absurd h2 x)
          refine CallG.bool (c_version hB.fit _) (fun _ => ?_) (fun x => absurd h3 x)
          refine IfB.mk (fun e => by cases e) (fun _ => ?_)
          refine Ex.mk _ (jx_versions (r := one.toNat) (by omega) hv) ?_
          refine Ex.mk _ rfl ?_
          refine Ex.mk _ (jx_versions (r := other.toNat) (by omega) hw) ?_
          refine Ex.mk _ rfl ?_
          refine CallG.pure _ (hr) ?_
          refine IfB.mk (fun _ => ?_) (fun e => by cases e)
          refine If.mk (fun _ => ?_) (fun h => absurd (by decide) h)
          refine If.mk (fun _ => ?_) (fun h => absurd (by decide) h)
          refine CallG.pure _ (known_call) ?_
          exact ⟨.inl rfl, FinG.mk _ rfl rfl rfl⟩
        | cons c l =>
          refine CallG.pure _ (ht) ?_
          refine CallG.bool (c_book hsh.len) (fun _ => ?_) (fun x => absurd hB x)
          refine CallG.bool (c_version hB.fit _) (fun _ => ?_) (fun x => absurd h2 x)
          refine CallG.bool (c_version hB.fit _) (fun _ => ?_) (fun x => absurd h3 x)
          refine IfB.mk (fun e => by cases e) (fun _ => ?_)
          refine Ex.mk _ (jx_versions (r := one.toNat) (by omega) hv) ?_
          refine Ex.mk _ rfl ?_
          refine Ex.mk _ (jx_versions (r := other.toNat) (by omega) hw) ?_
          refine Ex.mk _ rfl ?_
          refine CallG.pure _ (hr) ?_
          refine IfB.mk (fun e => by cases e) (fun _ => ?_)
          refine If.mk (fun _ => ?_) (fun h => absurd (by decide) h)
          refine CallG.bool (c_same _ _ (by omega)) (fun _ => ?_) (fun x => absurd rfl x)
          refine CallG.pure _ (known_call) ?_
          exact ⟨.inl rfl, FinG.mk _ rfl rfl rfl⟩
      · refine CallG.pure _ (c_tell_no hsh.len one other hG) ?_
        by_cases hB : BOk b
        · refine CallG.bool (c_book hsh.len) (fun _ => ?_) (fun x => absurd hB x)
          by_cases h2 : inI one 0 (b.vs.length - 1)
          · refine CallG.bool (c_version hB.fit _) (fun _ => ?_) (fun x => absurd h2 x)
            refine CallG.bool (c_version hB.fit _) (fun x => absurd ⟨hB, h2, x⟩ hG) (fun _ => ?_)
            refine IfB.mk (fun _ => ?_) (fun e => by cases e)
            refine If.mk (fun _ => ?_) (fun h => absurd (by decide) h)
            refine If.mk (fun _ => ?_) (fun h => absurd (by decide) h)
            refine CallG.pure _ (known_call) ?_
            exact ⟨.inl rfl, FinG.mk _ rfl rfl rfl⟩
          · refine CallG.bool (c_version hB.fit _) (fun x => absurd x h2) (fun _ => ?_)
            refine IfB.mk (fun _ => ?_) (fun e => by cases e)
            refine If.mk (fun _ => ?_) (fun h => absurd (by decide) h)
            refine If.mk (fun _ => ?_) (fun h => absurd (by decide) h)
            refine CallG.pure _ (known_call) ?_
            exact ⟨.inl rfl, FinG.mk _ rfl rfl rfl⟩
        · refine CallG.bool (c_book hsh.len) (fun x => absurd x hB) (fun _ => ?_)
          refine IfB.mk (fun _ => ?_) (fun e => by cases e)
          refine If.mk (fun _ => ?_) (fun h => absurd (by decide) h)
          refine If.mk (fun _ => ?_) (fun h => absurd (by decide) h)
          refine CallG.pure _ (known_call) ?_
          exact ⟨.inl rfl, FinG.mk _ rfl rfl rfl⟩
    · refine IfB.mk (fun _ => ?_) (fun e => by cases e)
      refine CallG.pure _ (known_call) ?_
      exact ⟨.inl rfl, FinG.mk _ rfl rfl rfl⟩
end Go.Vm

/-
  CueTells: the row and its card. (Own work; printed by gen_law.py.)
-/

namespace Go.Proofs.YtdhdaadoehbopaaGreatDoor
open Go.Vm Go.ChangeShapes Go.WideShapes Go.ChangeAt Go.RowKit

set_option maxHeartbeats 8000000 in
set_option maxRecDepth 100000 in
theorem cueTells_lifted (os : Os) (started : os.Started) (H : Type) (enc : TypeId × Value → H) :
    ReturnsInHanded {} Tryz.checked os 8 .any (fun w args => (Rows.cueTellsSpec.pre enc Tryz.prog Tryz.f8 Rows.cueTellsRow.domain false w args ∧ laidMetH Tryz.prog Rows.cueTellsRow.laid w) ∧ sizedMet enc Tryz.prog Tryz.f8 (OpenSpec.ofChange Rows.cueTellsSpec) false w args)
      (Rows.cueTellsSpec.post enc Tryz.prog Tryz.f8 false true false false) := by
  refine returnsInHanded_of_change_and (C := Tryz.checked) (X := fun w _ => laidMetH Tryz.prog Rows.cueTellsRow.laid w) (fun _ _ _ hh h => h.of_heap hh) own started (by kernel_rfl) Tryz.func8
    (ChangeSpec.witness_shaped (enc := enc) (C := Tryz.checked) (os := os) (X := fun w _ => laidMetH Tryz.prog Rows.cueTellsRow.laid w) false (World.laidAll Tryz.prog os Rows.cueTellsRow.laid) #[.agg #[.int .i64 0, .int .i64 0, .slice none 0 0], .int .i64 0, .int .i64 0] 8 (World.laidAll_os _ _ _)
      (World.shaped_of_ZipB (by kernel_rfl) (by kernel_rfl)) (by kernel_rfl) (by kernel_rfl) (by kernel_rfl)
      (by rw [MakeChecks.laidMetH_plain _ _ _ (by kernel_rfl)]; exact laidMet_laidAll _ (by kernel_rfl) (by kernel_rfl))) ?_
  intro W base args ds gs before hval0 hW _ _ _ _
  have hval : ∀ (j : Nat) t v, Tryz.f8.params[j]? = some t → args[j]? = some v → Value.okWide Tryz.prog W .any base t v := hval0
  have hW' := hW
  obtain ⟨p, q, hA0, hV, rfl, _, _⟩ := hW
  have hA : DataW.TrodAll enc Tryz.prog W 0 (fun _ => true) true Tryz.f8.params.toList args.toList ds p := hA0
  rw [Tryz.params8] at hA hval
  obtain ⟨v0, v1, v2, d0, d1, d2, p0, p1, p2, rfl, rfl, rfl, h0, h1, h2⟩ := trodAll_three hA
  obtain ⟨rfl, rfl⟩ := trodVars_none hV
  obtain ⟨x0, r0, _⟩ := arg_book (hval 0 24 v0 rfl rfl) h0
  obtain ⟨x1, r1, _⟩ := arg_int (hval 1 3 v1 rfl rfl) h1
  obtain ⟨x2, r2, _⟩ := arg_int (hval 2 3 v2 rfl rfl) h2
  refine (law_calls (c_cueTells x0 x1 x2) (by simp only [VRels, and_true]; exact ⟨r0, r1, r2⟩)).mono ?_
  rintro e W' ⟨rfl, hk⟩
  exact ⟨_, rfl, law_post laidOut (by kernel_rfl) (by kernel_rfl) (by kernel_rfl) hW' rfl rfl hk⟩

theorem cueTells_named : Tryz.pinned.checked.prog.funcNamed Rows.cueTellsRow.func = some 8 := by kernel_rfl
theorem cueTells_inst : Tryz.f8.isInstance Tryz.pinned.checked.prog Rows.cueTellsRow.origin Rows.cueTellsRow.targs := of_decide_eq_true (by kernel_rfl)
theorem cueTells_wrap : Tryz.f8.isWrapper Tryz.pinned.checked.prog Rows.cueTellsRow.wrapper Rows.cueTellsRow.mainSum := by unfold Func.isWrapper; first | (rw [if_pos (by decide +kernel)]; kernel_rfl) | (rw [if_neg (by decide +kernel)]; exact ⟨rfl, rfl⟩)
set_option maxHeartbeats 8000000 in
theorem cueTells_closed : joinedFacts Tryz.pinned.checked.prog 8 Tryz.f8 Rows.cueTellsSpec Rows.cueTellsRow = true := by
  unfold joinedFacts
  refine and_t (and_t (and_t (and_t (and_t (and_t (and_t (and_t (and_t (and_t (and_t (and_t (and_t (and_t (and_t (and_t (and_t (and_t (and_t (and_t (and_t (and_t (and_t (and_t (and_t (and_t (and_t (and_t (and_t (and_t (and_t ?_ ?_) ?_) ?_) ?_) ?_) ?_) ?_) ?_) ?_) ?_) ?_) ?_) ?_) ?_) ?_) ?_) ?_) ?_) ?_) ?_) ?_) ?_) ?_) ?_) ?_) ?_) ?_) ?_) ?_) ?_) ?_
  · as_aux_lemma => kernel_rfl
  · as_aux_lemma => kernel_rfl
  · as_aux_lemma => kernel_rfl
  · as_aux_lemma => kernel_rfl
  · as_aux_lemma => kernel_rfl
  · as_aux_lemma => kernel_rfl
  · as_aux_lemma => kernel_rfl
  · as_aux_lemma => kernel_rfl
  · as_aux_lemma => kernel_rfl
  · as_aux_lemma => kernel_rfl
  · as_aux_lemma => kernel_rfl
  · as_aux_lemma => kernel_rfl
  · as_aux_lemma => kernel_rfl
  · as_aux_lemma => kernel_rfl
  · as_aux_lemma => kernel_rfl
  · as_aux_lemma => kernel_rfl
  · as_aux_lemma => kernel_rfl
  · as_aux_lemma => kernel_rfl
  · as_aux_lemma => kernel_rfl
  · as_aux_lemma => kernel_rfl
  · as_aux_lemma => kernel_rfl
  · as_aux_lemma => kernel_rfl
  · as_aux_lemma => kernel_rfl
  · as_aux_lemma => kernel_rfl
  · as_aux_lemma => kernel_rfl
  · as_aux_lemma => kernel_rfl
  · as_aux_lemma => kernel_rfl
  · as_aux_lemma => kernel_rfl
  · as_aux_lemma => kernel_rfl
  · as_aux_lemma => kernel_rfl
  · as_aux_lemma => kernel_rfl
  · as_aux_lemma => kernel_rfl

theorem cueTells_holds : Rows.CueTellsSaid :=
  OpenClaim.holds_of_wide 8 Tryz.f8 rfl rfl rfl rfl rfl rfl rfl ⟨rfl, rfl, rfl, rfl, rfl⟩ rfl rfl rfl rfl rfl cueTells_named Tryz.func8 cueTells_closed cueTells_inst cueTells_wrap
    (fun os started H enc _ => cueTells_lifted os started H enc)

set_option maxHeartbeats 8000000 in
theorem cueTells_card : Rows.CueTellsCardSaid :=
  Claim7.holds_tied_plain_at .later [] [.data, .data, .data, .data, .pinned] true (true, "d200c2f9484011b2fecf6d987098eee6f4d6857560912b686a09e1298a9b974d") true cueTells_holds (fun _ h => by cases h) (by as_aux_lemma => kernel_rfl) (fun _ h => by cases h) cueTells_row_tie rfl ⟨rfl, rfl⟩ (by as_aux_lemma => kernel_rfl) rfl
    (fun f fn hf hfn => by
      obtain rfl : f = 8 := Option.some.inj (cueTells_named.symm.trans hf) |>.symm
      obtain rfl : fn = Tryz.f8 := (Option.some.inj (Tryz.func8.symm.trans hfn)).symm
      exact ⟨by as_aux_lemma => kernel_rfl, fun j t ht => by
        rw [Tryz.params8] at ht
        have hm : t ∈ [24, 3, 3] := by simpa using Array.mem_of_getElem? ht
        have hall : ([24, 3, 3].all fun u => !Tryz.prog.wantsStandIn u) = true := by kernel_rfl
        exact (show Tryz.prog.wantsStandIn t = false by simpa using List.all_eq_true.1 hall t hm)⟩)
    (by as_aux_lemma => kernel_rfl)
end Go.Proofs.YtdhdaadoehbopaaGreatDoor

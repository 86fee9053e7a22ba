/-
  The law CueSettles of package kelirlaw04 returns true for every input, and each argument reads afterwards as it read before: the tied card. Conditions: what the row lists of package-level variables, tied to the text of the program.
-/
import Derived.Test.YtdhdaadoehbopaaGreatDoorCw
import Derived.Test.YtdhdaadoehbopaaGreatDoorCj
import Derived.Test.YtdhdaadoehbopaaGreatDoorVk
import Derived.Test.YtdhdaadoehbopaaGreatDoorVr
import Derived.Test.YtdhdaadoehbopaaGreatDoorRows
import Derived.Test.YtdhdaadoehbopaaGreatDoorTie
import Derived.Test.YtdhdaadoehbopaaGreatDoorCards
import Derived.SevenTiedAt

namespace Go.Vm
open Go.Proofs
set_option maxRecDepth 100000 in
theorem c_Settle_none {b : Book} (hl : BLen b) (hB : BOk b) {evs : List Evening} (hE : EvsOk b evs) (hne : remL b.vs evs b.vs.length = []) (H : List Blk) : ACall Tryz.prog 53 [eBook b, eEvenings evs] H (.ret (nilS2 7)) H := by
 have h1c := hB.1.1.1
 have hN : EvOk b ([], []) := ⟨⟨⟨by simp, fun c h => by cases h⟩, ⟨fun c h => (by cases h), (by simp)⟩⟩, rfl⟩
 refine fn_rule (m := false) (fn := Tryz.f53) (c := (Tryz.f53.body).getD .skip) mixed (by kernel_rfl) (by kernel_rfl) (of_decide_eq_true (by kernel_rfl)) ?_ ?_ ?_ H
 ·exact ⟨under_eBook 0 _, under_eEvenings 0 _, trivial⟩
 ·exact under_tup2 trivial trivial
 ·refine CallG.weak _ (.cons (fun H => WeakH.refl _ H) (.cons (fun H => WeakH.refl _ H) (.cons (fun H => WeakH.refl _ H) (.cons wk_ev0 .nil)))) (c_left_none hl hB hE hN (by rw [remL_now]; exact hne)) ?_
  refine If.mk (fun h => absurd h (by decide)) (fun _ => ?_)
  refine ifY ?_
  exact ⟨.inl rfl, FinG.mk _ rfl rfl rfl⟩
set_option maxRecDepth 100000 in
theorem c_Settle_bad {b : Book} (hl : BLen b) {evs : List Evening} (he1 : evs.length < 4611686018427387904) (he2 : ∀ e ∈ evs, e.1.length < 4611686018427387904 ∧ e.2.length < 4611686018427387904) (hN : ¬ (BOk b ∧ EvsOk b evs)) (H : List Blk) : ACall Tryz.prog 53 [eBook b, eEvenings evs] H (.ret (nilS2 2)) H := by
 refine fn_rule (m := false) (fn := Tryz.f53) (c := (Tryz.f53.body).getD .skip) mixed (by kernel_rfl) (by kernel_rfl) (of_decide_eq_true (by kernel_rfl)) ?_ ?_ ?_ H
 ·exact ⟨under_eBook 0 _, under_eEvenings 0 _, trivial⟩
 ·exact under_tup2 trivial trivial
 ·refine CallG.weak _ (.cons (fun H => WeakH.refl _ H) (.cons (fun H => WeakH.refl _ H) (.cons (fun H => WeakH.refl _ H) (.cons wk_ev0 .nil)))) (c_left_bad hl he1 he2 (by simp) (by simp) (fun x => hN ⟨x.1, x.2.1⟩)) ?_
  refine If.mk (fun h => absurd h (by decide)) (fun _ => ?_)
  refine ifY ?_
  exact ⟨.inl rfl, FinG.mk _ rfl rfl rfl⟩
set_option maxHeartbeats 4000000 in
set_option maxRecDepth 100000 in
theorem c_cueSettles (b : Book) (evs : List Evening) (H : List Blk) : ACall Tryz.prog 10 [eBook b, eEvenings evs] H (.ret (.lit (.bool true))) H := by
 refine fn_rule (m := false) (fn := Tryz.f10) (c := (Tryz.f10.body).getD .skip) mixed (by kernel_rfl) (by kernel_rfl) (of_decide_eq_true (by kernel_rfl)) ?_ ?_ ?_ H
 ·exact ⟨under_eBook 0 _, under_eEvenings 0 _, trivial⟩
 ·trivial
 ·refine CallG.bool (c_short _) (fun hsh => ?_) (fun _ => ?_)
  ·refine CallG.bool (c_brief _) (fun hbr => ?_) (fun _ => ?_)
   ·refine ifN ?_
    have hlen : evs.length < 4611686018427387904 := by have := hbr.2; omega
    have hle : ∀ e ∈ evs, e.1.length < 4611686018427387904 ∧ e.2.length < 4611686018427387904 := fun e he => by
     have := hbr.1 e he
     unfold Slim at this
     omega
    by_cases hG : BOk b ∧ EvsOk b evs
    ·obtain ⟨hB, hE⟩ := hG
     have hbc := hB.1.1
     have hvn := hB.1.2.2
     unfold inI at hvn hbc
     have hRl := remL_length b.vs evs b.vs.length
     by_cases hne : remL b.vs evs b.vs.length = []
     ·refine CallG.pure _ (c_Settle_none hsh.len hB hE hne) ?_
      refine CallG.bool (c_book hsh.len) (fun _ => ?_) (fun x => absurd hB x)
      refine CallG.bool (c_evenings hB.fit _ hlen hle) (fun _ => ?_) (fun x => absurd hE x)
      refine ifN ?_
      refine CallG.pure _ (c_refRemains hB hE.1 (by have := hE.2; omega)) ?_
      rw [hne]
      refine If.mk (fun _ => ?_) (fun h => absurd (by decide) h)
      refine ifY ?_
      refine If.mk (fun _ => ?_) (fun h => absurd (by decide) h)
      refine If.mk (fun _ => ?_) (fun h => absurd (by decide) h)
      refine CallG.pure _ (known_call) ?_
      exact ⟨.inl rfl, FinG.mk _ rfl rfl rfl⟩
     ·obtain ⟨o, hF, hc⟩ := c_Settle hsh.len hB hE hne
      have hL := remL_left (b := b) (by omega) evs
      obtain ⟨u, ⟨o', rfl, hF'⟩, hr⟩ := c_refSettle hB hL
      obtain rfl := hF.unique hF'
      have hj : ∀ l, o = some l → l.length < 1792 := fun l h => by
       subst h
       exact settle_short (fun v hv => (hB.2 v hv).vers.1) (fun v hv => (hB.2 v hv).vers.2) (fun v hv => by have := (hB.2 v hv).2; unfold inI at this; omega) hL hF
      cases o with
      | none =>
       refine CallG.pure _ (hc) ?_
       refine CallG.bool (c_book hsh.len) (fun _ => ?_) (fun x => absurd hB x)
       refine CallG.bool (c_evenings hB.fit _ hlen hle) (fun _ => ?_) (fun x => absurd hE x)
       refine ifN ?_
       refine CallG.pure _ (c_refRemains hB hE.1 (by have := hE.2; omega)) ?_
       generalize remL b.vs evs b.vs.length = L at *
       refine If.mk (fun h => absurd (List.length_eq_zero_iff.1 (by omega)) hne) (fun _ => ?_)
       refine ifN ?_
       refine CallG.pure _ ((fun H => hr H)) ?_
       refine ifY ?_
       refine If.mk (fun _ => ?_) (fun h => absurd (by decide) h)
       refine If.mk (fun _ => ?_) (fun h => absurd (by decide) h)
       refine CallG.pure _ (known_call) ?_
       exact ⟨.inl rfl, FinG.mk _ rfl rfl rfl⟩
      | some l =>
       have hll := hj l rfl
       have hcl := cuesI_length l
       refine CallG.pure _ (hc) ?_
       refine CallG.bool (c_book hsh.len) (fun _ => ?_) (fun x => absurd hB x)
       refine CallG.bool (c_evenings hB.fit _ hlen hle) (fun _ => ?_) (fun x => absurd hE x)
       refine ifN ?_
       refine CallG.pure _ (c_refRemains hB hE.1 (by have := hE.2; omega)) ?_
       generalize remL b.vs evs b.vs.length = L at *
       refine If.mk (fun h => absurd (List.length_eq_zero_iff.1 (by omega)) hne) (fun _ => ?_)
       refine ifN ?_
       refine CallG.pure _ ((fun H => hr H)) ?_
       refine ifN ?_
       refine If.mk (fun _ => ?_) (fun h => absurd (by decide) h)
       refine CallG.bool (c_same (cuesI l) (cuesI l) (by omega)) (fun _ => ?_) (fun x => absurd rfl x)
       refine CallG.pure _ (known_call) ?_
       exact ⟨.inl rfl, FinG.mk _ rfl rfl rfl⟩
    ·refine CallG.pure _ (c_Settle_bad hsh.len hlen hle hG) ?_
     refine CallG.bool (c_book hsh.len) (fun hB => ?_) (fun _ => ?_)
     ·refine CallG.bool (c_evenings hB.fit _ hlen hle) (fun x => absurd ⟨hB, x⟩ hG) (fun _ => ?_)
      refine ifY ?_
      refine If.mk (fun _ => ?_) (fun h => absurd (by decide) h)
      refine If.mk (fun _ => ?_) (fun h => absurd (by decide) h)
      refine CallG.pure _ (known_call) ?_
      exact ⟨.inl rfl, FinG.mk _ rfl rfl rfl⟩
     ·refine ifY ?_
      refine If.mk (fun _ => ?_) (fun h => absurd (by decide) h)
      refine If.mk (fun _ => ?_) (fun h => absurd (by decide) h)
      refine CallG.pure _ (known_call) ?_
      exact ⟨.inl rfl, FinG.mk _ rfl rfl rfl⟩
   ·refine ifY ?_
    refine CallG.pure _ (known_call) ?_
    exact ⟨.inl rfl, FinG.mk _ rfl rfl rfl⟩
  ·refine ifY ?_
   refine CallG.pure _ (known_call) ?_
   exact ⟨.inl rfl, FinG.mk _ rfl rfl rfl⟩
end Go.Vm

namespace Go.Proofs.YtdhdaadoehbopaaGreatDoor
open Go.Vm Go.ChangeShapes Go.WideShapes Go.ChangeAt Go.RowKit
set_option maxHeartbeats 8000000 in
set_option maxRecDepth 100000 in
theorem cueSettles_lifted (os : Os) (started : os.Started) (H : Type) (enc : TypeId × Value → H) :
  ReturnsInHanded {} Tryz.checked os 10 .any (fun w args => (Rows.cueSettlesSpec.pre enc Tryz.prog Tryz.f10 Rows.cueSettlesRow.domain false w args ∧ laidMetH Tryz.prog Rows.cueSettlesRow.laid w) ∧ sizedMet enc Tryz.prog Tryz.f10 (OpenSpec.ofChange Rows.cueSettlesSpec) false w args)
   (Rows.cueSettlesSpec.post enc Tryz.prog Tryz.f10 false true false false) := by
 refine returnsInHanded_of_change_and (C := Tryz.checked) (X := fun w _ => laidMetH Tryz.prog Rows.cueSettlesRow.laid w) (fun _ _ _ hh h => h.of_heap hh) own started (by kernel_rfl) Tryz.func10
  (ChangeSpec.witness_shaped (enc := enc) (C := Tryz.checked) (os := os) (X := fun w _ => laidMetH Tryz.prog Rows.cueSettlesRow.laid w) false (World.laidAll Tryz.prog os Rows.cueSettlesRow.laid) #[.agg #[.int .i64 0, .int .i64 0, .slice none 0 0], .slice none 0 0] 8 (World.laidAll_os _ _ _)
   (World.shaped_of_ZipB (by kernel_rfl) (by kernel_rfl)) (by kernel_rfl) (by kernel_rfl) (by kernel_rfl)
   (by rw [MakeChecks.laidMetH_plain _ _ _ (by kernel_rfl)]; exact laidMet_laidAll _ (by kernel_rfl) (by kernel_rfl))) ?_
 intro W base args ds gs before hval0 hW _ _ _ _
 have hval : ∀ (j : Nat) t v, Tryz.f10.params[j]? = some t → args[j]? = some v → Value.okWide Tryz.prog W .any base t v := hval0
 have hW' := hW
 obtain ⟨p, q, hA0, hV, rfl, _, _⟩ := hW
 have hA : DataW.TrodAll enc Tryz.prog W 0 (fun _ => true) true Tryz.f10.params.toList args.toList ds p := hA0
 rw [Tryz.params10] at hA hval
 obtain ⟨v0, v1, d0, d1, p0, p1, rfl, rfl, rfl, h0, h1⟩ := trodAll_two hA
 obtain ⟨rfl, rfl⟩ := trodVars_none hV
 obtain ⟨x0, r0, _⟩ := arg_book (hval 0 24 v0 rfl rfl) h0
 obtain ⟨x1, r1, _⟩ := arg_evenings (hval 1 40 v1 rfl rfl) h1
 refine (law_calls (c_cueSettles x0 x1) (by simp only [VRels, and_true]; exact ⟨r0, r1⟩)).mono ?_
 rintro e W' ⟨rfl, hk⟩
 exact ⟨_, rfl, law_post laidOut (by kernel_rfl) (by kernel_rfl) (by kernel_rfl) hW' rfl rfl hk⟩
theorem cueSettles_named : Tryz.pinned.checked.prog.funcNamed Rows.cueSettlesRow.func = some 10 := by kernel_rfl
theorem cueSettles_inst : Tryz.f10.isInstance Tryz.pinned.checked.prog Rows.cueSettlesRow.origin Rows.cueSettlesRow.targs := of_decide_eq_true (by kernel_rfl)
theorem cueSettles_wrap : Tryz.f10.isWrapper Tryz.pinned.checked.prog Rows.cueSettlesRow.wrapper Rows.cueSettlesRow.mainSum := by unfold Func.isWrapper; first | (rw [if_pos (by decide +kernel)]; kernel_rfl) | (rw [if_neg (by decide +kernel)]; exact ⟨rfl, rfl⟩)
set_option maxHeartbeats 8000000 in
theorem cueSettles_closed : joinedFacts Tryz.pinned.checked.prog 10 Tryz.f10 Rows.cueSettlesSpec Rows.cueSettlesRow = true := by
 unfold joinedFacts
 refine and_t (and_t (and_t (and_t (and_t (and_t (and_t (and_t (and_t (and_t (and_t (and_t (and_t (and_t (and_t (and_t (and_t (and_t (and_t (and_t (and_t (and_t (and_t (and_t (and_t (and_t (and_t (and_t (and_t (and_t (and_t ?_ ?_) ?_) ?_) ?_) ?_) ?_) ?_) ?_) ?_) ?_) ?_) ?_) ?_) ?_) ?_) ?_) ?_) ?_) ?_) ?_) ?_) ?_) ?_) ?_) ?_) ?_) ?_) ?_) ?_) ?_) ?_
 ·as_aux_lemma => kernel_rfl
 ·as_aux_lemma => kernel_rfl
 ·as_aux_lemma => kernel_rfl
 ·as_aux_lemma => kernel_rfl
 ·as_aux_lemma => kernel_rfl
 ·as_aux_lemma => kernel_rfl
 ·as_aux_lemma => kernel_rfl
 ·as_aux_lemma => kernel_rfl
 ·as_aux_lemma => kernel_rfl
 ·as_aux_lemma => kernel_rfl
 ·as_aux_lemma => kernel_rfl
 ·as_aux_lemma => kernel_rfl
 ·as_aux_lemma => kernel_rfl
 ·as_aux_lemma => kernel_rfl
 ·as_aux_lemma => kernel_rfl
 ·as_aux_lemma => kernel_rfl
 ·as_aux_lemma => kernel_rfl
 ·as_aux_lemma => kernel_rfl
 ·as_aux_lemma => kernel_rfl
 ·as_aux_lemma => kernel_rfl
 ·as_aux_lemma => kernel_rfl
 ·as_aux_lemma => kernel_rfl
 ·as_aux_lemma => kernel_rfl
 ·as_aux_lemma => kernel_rfl
 ·as_aux_lemma => kernel_rfl
 ·as_aux_lemma => kernel_rfl
 ·as_aux_lemma => kernel_rfl
 ·as_aux_lemma => kernel_rfl
 ·as_aux_lemma => kernel_rfl
 ·as_aux_lemma => kernel_rfl
 ·as_aux_lemma => kernel_rfl
 ·as_aux_lemma => kernel_rfl
theorem cueSettles_holds : Rows.CueSettlesSaid :=
 OpenClaim.holds_of_wide 10 Tryz.f10 rfl rfl rfl rfl rfl rfl rfl ⟨rfl, rfl, rfl, rfl, rfl⟩ rfl rfl rfl rfl rfl cueSettles_named Tryz.func10 cueSettles_closed cueSettles_inst cueSettles_wrap
  (fun os started H enc _ => cueSettles_lifted os started H enc)
set_option maxHeartbeats 8000000 in
theorem cueSettles_card : Rows.CueSettlesCardSaid :=
 Claim7.holds_tied_plain_at .later [] [.data, .data, .data, .data, .pinned] true (true, "d200c2f9484011b2fecf6d987098eee6f4d6857560912b686a09e1298a9b974d") true cueSettles_holds (fun _ h => by cases h) (by as_aux_lemma => kernel_rfl) (fun _ h => by cases h) cueSettles_row_tie rfl ⟨rfl, rfl⟩ (by as_aux_lemma => kernel_rfl) rfl
  (fun f fn hf hfn => by
   obtain rfl : f = 10 := Option.some.inj (cueSettles_named.symm.trans hf) |>.symm
   obtain rfl : fn = Tryz.f10 := (Option.some.inj (Tryz.func10.symm.trans hfn)).symm
   exact ⟨by as_aux_lemma => kernel_rfl, fun j t ht => by
    rw [Tryz.params10] at ht
    have hm : t ∈ [24, 40] := by simpa using Array.mem_of_getElem? ht
    have hall : ([24, 40].all fun u => !Tryz.prog.wantsStandIn u) = true := by kernel_rfl
    exact (show Tryz.prog.wantsStandIn t = false by simpa using List.all_eq_true.1 hall t hm)⟩)
  (by as_aux_lemma => kernel_rfl)
end Go.Proofs.YtdhdaadoehbopaaGreatDoor

/-
  The law CueAsks of package kelirlaw04 returns true for every input, and each argument reads afterwards as it read before: the tied card. Conditions: what the row lists of package-level variables, tied to the text of the program.
-/
import Derived.Test.YtdhdaadoehbopaaGreatDoorDb
import Derived.Test.YtdhdaadoehbopaaGreatDoorDa
import Derived.Test.YtdhdaadoehbopaaGreatDoorCj
import Derived.Test.YtdhdaadoehbopaaGreatDoorVk
import Derived.Test.YtdhdaadoehbopaaGreatDoorVr
import Derived.Test.YtdhdaadoehbopaaGreatDoorRows
import Derived.Test.YtdhdaadoehbopaaGreatDoorTie
import Derived.Test.YtdhdaadoehbopaaGreatDoorCards
import Derived.SevenTiedAt

namespace Go.Vm
open Go.Proofs
set_option maxHeartbeats 8000000 in
set_option maxRecDepth 100000 in
theorem c_cueAsks (b : Book) (evs : List Evening) (now : Evening) (H : List Blk) : ACall Tryz.prog 12 [eBook b, eEvenings evs, eEvening now] H (.ret (.lit (.bool true))) H := by
 refine fn_rule (m := false) (fn := Tryz.f12) (c := (Tryz.f12.body).getD .skip) mixed (by kernel_rfl) (by kernel_rfl) (of_decide_eq_true (by kernel_rfl)) ?_ ?_ ?_ H
 ·exact ⟨under_eBook 0 _, under_eEvenings 0 _, under_eEvening 0 _, trivial⟩
 ·trivial
 ·refine CallG.bool (c_short _) (fun hsh => ?_) (fun _ => ?_)
  ·refine CallG.bool (c_brief _) (fun hbr => ?_) (fun _ => ?_)
   ·refine CallG.bool (c_slim _) (fun hsl => ?_) (fun _ => ?_)
    ·refine ifN ?_
     have hlen : evs.length < 4611686018427387904 := by have := hbr.2; omega
     have hle : ∀ e ∈ evs, e.1.length < 4611686018427387904 ∧ e.2.length < 4611686018427387904 := fun e he => by
      have := hbr.1 e he
      unfold Slim at this
      omega
     have hn1 : now.1.length < 4611686018427387904 := by unfold Slim at hsl; omega
     have hn2 : now.2.length < 4611686018427387904 := by unfold Slim at hsl; omega
     have hbl := hbr.2
     by_cases hG : BOk b ∧ EvsOk b evs ∧ EvOk b now
     ·obtain ⟨hB, hE, hN⟩ := hG
      have hev : ∀ e ∈ evs ++ [now], EvOk b e := fun e he => by
       rcases List.mem_append.1 he with he | he
       ·exact hE.1 e he
       ·rw [List.mem_singleton] at he; subst he; exact hN
      have hRl := remL_length b.vs (evs ++ [now]) b.vs.length
      have hbc := hB.1.1
      have hnl := hN.1.1.1
      unfold inI at hbc
      by_cases hne : remL b.vs (evs ++ [now]) b.vs.length = []
      ·refine CallG.pure _ (c_Ask_none hsh.len hB hE hN hne) ?_
       refine CallG.bool (c_book hsh.len) (fun _ => ?_) (fun x => absurd hB x)
       refine CallG.bool (c_evenings hB.fit _ hlen hle) (fun _ => ?_) (fun x => absurd hE x)
       refine CallG.bool (c_evening hB.fit _ hn1 hn2) (fun _ => ?_) (fun x => absurd hN x)
       refine ifN ?_
       by_cases hen : evs = []
       ·subst hen
        refine Ex.mk _ rfl ?_
        refine ex_app _ _ (ap_ev1 (g := fun _ => none)) ?_
        refine CallG.weak _ (.cons (fun H => WeakH.refl _ H) (.cons (wk_evs (l := [])) .nil)) (c_refRemains hB hev (by simp)) ?_
        rw [hne]
        refine If.mk (fun _ => ?_) (fun h => absurd (by decide) h)
        refine ifY ?_
        refine If.mk (fun _ => ?_) (fun h => absurd (by decide) h)
        refine If.mk (fun _ => ?_) (fun h => absurd (by decide) h)
        refine If.mk (fun _ => ?_) (fun h => absurd (by decide) h)
        refine CallG.pure _ (known_call) ?_
        exact ⟨.inl rfl, FinG.mk _ rfl rfl rfl⟩
       ·refine ex_app _ _ (ap_evNil hen (by omega)) ?_
        refine ex_app _ _ (app_evening (flat2_length (fun _ => rfl) _) (by omega) rfl) ?_
        refine CallG.weak _ (.cons (fun H => WeakH.refl _ H) (.cons wk_evs .nil)) (c_refRemains hB hev (by rw [List.length_append]; simp; omega)) ?_
        rw [hne]
        refine If.mk (fun _ => ?_) (fun h => absurd (by decide) h)
        refine ifY ?_
        refine If.mk (fun _ => ?_) (fun h => absurd (by decide) h)
        refine If.mk (fun _ => ?_) (fun h => absurd (by decide) h)
        refine If.mk (fun _ => ?_) (fun h => absurd (by decide) h)
        refine CallG.pure _ (known_call) ?_
        exact ⟨.inl rfl, FinG.mk _ rfl rfl rfl⟩
      ·have hcc : CuesOk b.cues.toNat now.1 := (LList.cues hN.1.1 (by omega)).1
       obtain ⟨l, hlo, hcu'⟩ := ints_cues hcc
       have hcu := hcu'.symm
       obtain ⟨o, hA, hc⟩ := c_Ask hsh.len hB hE hN hne hlo hcu
       obtain ⟨o', hA', hr⟩ := c_refAsk hB (evs := evs ++ [now]) hlo (by have := cuesI_length l; rw [← hcu] at this; omega)
       obtain rfl := hA.unique hA'
       rw [← hcu] at hr
       rcases o with _ | _ | ⟨c, n⟩
       ·refine CallG.pure _ (hc) ?_
        refine CallG.bool (c_book hsh.len) (fun _ => ?_) (fun x => absurd hB x)
        refine CallG.bool (c_evenings hB.fit _ hlen hle) (fun _ => ?_) (fun x => absurd hE x)
        refine CallG.bool (c_evening hB.fit _ hn1 hn2) (fun _ => ?_) (fun x => absurd hN x)
        refine ifN ?_
        by_cases hen : evs = []
        ·subst hen
         refine Ex.mk _ rfl ?_
         refine ex_app _ _ (ap_ev1 (g := fun _ => none)) ?_
         refine CallG.weak _ (.cons (fun H => WeakH.refl _ H) (.cons (wk_evs (l := [])) .nil)) (c_refRemains hB hev (by simp)) ?_
         refine If.mk (fun h => absurd (List.length_eq_zero_iff.1 (by omega)) hne) (fun _ => ?_)
         refine ifN ?_
         refine CallG.pure (askV none) hr ?_
         refine If.mk (fun _ => ?_) (fun h => absurd (by decide) h)
         refine ifY ?_
         refine If.mk (fun _ => ?_) (fun h => absurd (by decide) h)
         refine If.mk (fun _ => ?_) (fun h => absurd (by decide) h)
         refine If.mk (fun _ => ?_) (fun h => absurd (by decide) h)
         refine CallG.pure _ (known_call) ?_
         exact ⟨.inl rfl, FinG.mk _ rfl rfl rfl⟩
        ·refine ex_app _ _ (ap_evNil hen (by omega)) ?_
         refine ex_app _ _ (app_evening (flat2_length (fun _ => rfl) _) (by omega) rfl) ?_
         refine CallG.weak _ (.cons (fun H => WeakH.refl _ H) (.cons wk_evs .nil)) (c_refRemains hB hev (by rw [List.length_append]; simp; omega)) ?_
         refine If.mk (fun h => absurd (List.length_eq_zero_iff.1 (by omega)) hne) (fun _ => ?_)
         refine ifN ?_
         refine CallG.pure (askV none) hr ?_
         refine If.mk (fun _ => ?_) (fun h => absurd (by decide) h)
         refine ifY ?_
         refine If.mk (fun _ => ?_) (fun h => absurd (by decide) h)
         refine If.mk (fun _ => ?_) (fun h => absurd (by decide) h)
         refine If.mk (fun _ => ?_) (fun h => absurd (by decide) h)
         refine CallG.pure _ (known_call) ?_
         exact ⟨.inl rfl, FinG.mk _ rfl rfl rfl⟩
       ·refine CallG.pure _ (hc) ?_
        refine CallG.bool (c_book hsh.len) (fun _ => ?_) (fun x => absurd hB x)
        refine CallG.bool (c_evenings hB.fit _ hlen hle) (fun _ => ?_) (fun x => absurd hE x)
        refine CallG.bool (c_evening hB.fit _ hn1 hn2) (fun _ => ?_) (fun x => absurd hN x)
        refine ifN ?_
        by_cases hen : evs = []
        ·subst hen
         refine Ex.mk _ rfl ?_
         refine ex_app _ _ (ap_ev1 (g := fun _ => none)) ?_
         refine CallG.weak _ (.cons (fun H => WeakH.refl _ H) (.cons (wk_evs (l := [])) .nil)) (c_refRemains hB hev (by simp)) ?_
         refine If.mk (fun h => absurd (List.length_eq_zero_iff.1 (by omega)) hne) (fun _ => ?_)
         refine ifN ?_
         refine CallG.pure (askV (some none)) hr ?_
         refine If.mk (fun h => absurd h (by decide)) (fun _ => ?_)
         refine ifN ?_
         refine If.mk (fun _ => ?_) (fun h => absurd (by decide) h)
         refine If.mk (fun _ => ?_) (fun h => absurd (by decide) h)
         refine If.mk (fun _ => ?_) (fun h => absurd (by decide) h)
         refine CallG.pure _ (known_call) ?_
         exact ⟨.inl rfl, FinG.mk _ rfl rfl rfl⟩
        ·refine ex_app _ _ (ap_evNil hen (by omega)) ?_
         refine ex_app _ _ (app_evening (flat2_length (fun _ => rfl) _) (by omega) rfl) ?_
         refine CallG.weak _ (.cons (fun H => WeakH.refl _ H) (.cons wk_evs .nil)) (c_refRemains hB hev (by rw [List.length_append]; simp; omega)) ?_
         refine If.mk (fun h => absurd (List.length_eq_zero_iff.1 (by omega)) hne) (fun _ => ?_)
         refine ifN ?_
         refine CallG.pure (askV (some none)) hr ?_
         refine If.mk (fun h => absurd h (by decide)) (fun _ => ?_)
         refine ifN ?_
         refine If.mk (fun _ => ?_) (fun h => absurd (by decide) h)
         refine If.mk (fun _ => ?_) (fun h => absurd (by decide) h)
         refine If.mk (fun _ => ?_) (fun h => absurd (by decide) h)
         refine CallG.pure _ (known_call) ?_
         exact ⟨.inl rfl, FinG.mk _ rfl rfl rfl⟩
       ·have hnb : n < 1000 := by
         cases hA with
         | best hq => exact hB.game.val_lt (hB.game.st_ok hlo _) hq.val
        refine CallG.pure _ (hc) ?_
        refine CallG.bool (c_book hsh.len) (fun _ => ?_) (fun x => absurd hB x)
        refine CallG.bool (c_evenings hB.fit _ hlen hle) (fun _ => ?_) (fun x => absurd hE x)
        refine CallG.bool (c_evening hB.fit _ hn1 hn2) (fun _ => ?_) (fun x => absurd hN x)
        refine ifN ?_
        by_cases hen : evs = []
        ·subst hen
         refine Ex.mk _ rfl ?_
         refine ex_app _ _ (ap_ev1 (g := fun _ => none)) ?_
         refine CallG.weak _ (.cons (fun H => WeakH.refl _ H) (.cons (wk_evs (l := [])) .nil)) (c_refRemains hB hev (by simp)) ?_
         refine If.mk (fun h => absurd (List.length_eq_zero_iff.1 (by omega)) hne) (fun _ => ?_)
         refine ifN ?_
         refine CallG.pure (askV (some (some (c, n)))) hr ?_
         refine If.mk (fun h => absurd h (by omega)) (fun _ => ?_)
         refine ifN ?_
         refine If.mk (fun _ => ?_) (fun h => absurd (by decide) h)
         refine If.mk (fun _ => ?_) (fun h => absurd (rfl) h)
         refine If.mk (fun _ => ?_) (fun h => absurd (rfl) h)
         refine CallG.pure _ (known_call) ?_
         exact ⟨.inl rfl, FinG.mk _ rfl rfl rfl⟩
        ·refine ex_app _ _ (ap_evNil hen (by omega)) ?_
         refine ex_app _ _ (app_evening (flat2_length (fun _ => rfl) _) (by omega) rfl) ?_
         refine CallG.weak _ (.cons (fun H => WeakH.refl _ H) (.cons wk_evs .nil)) (c_refRemains hB hev (by rw [List.length_append]; simp; omega)) ?_
         refine If.mk (fun h => absurd (List.length_eq_zero_iff.1 (by omega)) hne) (fun _ => ?_)
         refine ifN ?_
         refine CallG.pure (askV (some (some (c, n)))) hr ?_
         refine If.mk (fun h => absurd h (by omega)) (fun _ => ?_)
         refine ifN ?_
         refine If.mk (fun _ => ?_) (fun h => absurd (by decide) h)
         refine If.mk (fun _ => ?_) (fun h => absurd (rfl) h)
         refine If.mk (fun _ => ?_) (fun h => absurd (rfl) h)
         refine CallG.pure _ (known_call) ?_
         exact ⟨.inl rfl, FinG.mk _ rfl rfl rfl⟩
     ·refine CallG.pure _ (c_Ask_bad hsh.len hlen hle hn1 hn2 hG) ?_
      by_cases hB : BOk b
      ·refine CallG.bool (c_book hsh.len) (fun _ => ?_) (fun x => absurd hB x)
       by_cases hE : EvsOk b evs
       ·refine CallG.bool (c_evenings hB.fit _ hlen hle) (fun _ => ?_) (fun x => absurd hE x)
        refine CallG.bool (c_evening hB.fit _ hn1 hn2) (fun x => absurd ⟨hB, hE, x⟩ hG) (fun _ => ?_)
        refine ifY ?_
        refine If.mk (fun _ => ?_) (fun h => absurd (by decide) h)
        refine If.mk (fun _ => ?_) (fun h => absurd (by decide) h)
        refine If.mk (fun _ => ?_) (fun h => absurd (by decide) h)
        refine CallG.pure _ (known_call) ?_
        exact ⟨.inl rfl, FinG.mk _ rfl rfl rfl⟩
       ·refine CallG.bool (c_evenings hB.fit _ hlen hle) (fun x => absurd x hE) (fun _ => ?_)
        refine ifY ?_
        refine If.mk (fun _ => ?_) (fun h => absurd (by decide) h)
        refine If.mk (fun _ => ?_) (fun h => absurd (by decide) h)
        refine If.mk (fun _ => ?_) (fun h => absurd (by decide) h)
        refine CallG.pure _ (known_call) ?_
        exact ⟨.inl rfl, FinG.mk _ rfl rfl rfl⟩
      ·refine CallG.bool (c_book hsh.len) (fun x => absurd x hB) (fun _ => ?_)
       refine ifY ?_
       refine If.mk (fun _ => ?_) (fun h => absurd (by decide) h)
       refine If.mk (fun _ => ?_) (fun h => absurd (by decide) h)
       refine If.mk (fun _ => ?_) (fun h => absurd (by decide) h)
       refine CallG.pure _ (known_call) ?_
       exact ⟨.inl rfl, FinG.mk _ rfl rfl rfl⟩
    ·refine ifY ?_
     refine CallG.pure _ (known_call) ?_
     exact ⟨.inl rfl, FinG.mk _ rfl rfl rfl⟩
   ·refine ifY ?_
    refine CallG.pure _ (known_call) ?_
    exact ⟨.inl rfl, FinG.mk _ rfl rfl rfl⟩
  ·refine ifY ?_
   refine CallG.pure _ (known_call) ?_
   exact ⟨.inl rfl, FinG.mk _ rfl rfl rfl⟩
end Go.Vm

namespace Go.Proofs.YtdhdaadoehbopaaGreatDoor
open Go.Vm Go.ChangeShapes Go.WideShapes Go.ChangeAt Go.RowKit
set_option maxHeartbeats 8000000 in
set_option maxRecDepth 100000 in
theorem cueAsks_lifted (os : Os) (started : os.Started) (H : Type) (enc : TypeId × Value → H) :
  ReturnsInHanded {} Tryz.checked os 12 .any (fun w args => (Rows.cueAsksSpec.pre enc Tryz.prog Tryz.f12 Rows.cueAsksRow.domain false w args ∧ laidMetH Tryz.prog Rows.cueAsksRow.laid w) ∧ sizedMet enc Tryz.prog Tryz.f12 (OpenSpec.ofChange Rows.cueAsksSpec) false w args)
   (Rows.cueAsksSpec.post enc Tryz.prog Tryz.f12 false true false false) := by
 refine returnsInHanded_of_change_and (C := Tryz.checked) (X := fun w _ => laidMetH Tryz.prog Rows.cueAsksRow.laid w) (fun _ _ _ hh h => h.of_heap hh) own started (by kernel_rfl) Tryz.func12
  (ChangeSpec.witness_shaped (enc := enc) (C := Tryz.checked) (os := os) (X := fun w _ => laidMetH Tryz.prog Rows.cueAsksRow.laid w) false (World.laidAll Tryz.prog os Rows.cueAsksRow.laid) #[.agg #[.int .i64 0, .int .i64 0, .slice none 0 0], .slice none 0 0, .agg #[.slice none 0 0, .slice none 0 0]] 8 (World.laidAll_os _ _ _)
   (World.shaped_of_ZipB (by kernel_rfl) (by kernel_rfl)) (by kernel_rfl) (by kernel_rfl) (by kernel_rfl)
   (by rw [MakeChecks.laidMetH_plain _ _ _ (by kernel_rfl)]; exact laidMet_laidAll _ (by kernel_rfl) (by kernel_rfl))) ?_
 intro W base args ds gs before hval0 hW _ _ _ _
 have hval : ∀ (j : Nat) t v, Tryz.f12.params[j]? = some t → args[j]? = some v → Value.okWide Tryz.prog W .any base t v := hval0
 have hW' := hW
 obtain ⟨p, q, hA0, hV, rfl, _, _⟩ := hW
 have hA : DataW.TrodAll enc Tryz.prog W 0 (fun _ => true) true Tryz.f12.params.toList args.toList ds p := hA0
 rw [Tryz.params12] at hA hval
 obtain ⟨v0, v1, v2, d0, d1, d2, p0, p1, p2, rfl, rfl, rfl, h0, h1, h2⟩ := trodAll_three hA
 obtain ⟨rfl, rfl⟩ := trodVars_none hV
 obtain ⟨x0, r0, _⟩ := arg_book (hval 0 24 v0 rfl rfl) h0
 obtain ⟨x1, r1, _⟩ := arg_evenings (hval 1 40 v1 rfl rfl) h1
 obtain ⟨x2, r2, _⟩ := arg_evening (hval 2 51 v2 rfl rfl) h2
 refine (law_calls (c_cueAsks x0 x1 x2) (by simp only [VRels, and_true]; exact ⟨r0, r1, r2⟩)).mono ?_
 rintro e W' ⟨rfl, hk⟩
 exact ⟨_, rfl, law_post laidOut (by kernel_rfl) (by kernel_rfl) (by kernel_rfl) hW' rfl rfl hk⟩
theorem cueAsks_named : Tryz.pinned.checked.prog.funcNamed Rows.cueAsksRow.func = some 12 := by kernel_rfl
theorem cueAsks_inst : Tryz.f12.isInstance Tryz.pinned.checked.prog Rows.cueAsksRow.origin Rows.cueAsksRow.targs := of_decide_eq_true (by kernel_rfl)
theorem cueAsks_wrap : Tryz.f12.isWrapper Tryz.pinned.checked.prog Rows.cueAsksRow.wrapper Rows.cueAsksRow.mainSum := by unfold Func.isWrapper; first | (rw [if_pos (by decide +kernel)]; kernel_rfl) | (rw [if_neg (by decide +kernel)]; exact ⟨rfl, rfl⟩)
set_option maxHeartbeats 8000000 in
theorem cueAsks_closed : joinedFacts Tryz.pinned.checked.prog 12 Tryz.f12 Rows.cueAsksSpec Rows.cueAsksRow = true := by
 unfold joinedFacts
 refine and_t (and_t (and_t (and_t (and_t (and_t (and_t (and_t (and_t (and_t (and_t (and_t (and_t (and_t (and_t (and_t (and_t (and_t (and_t (and_t (and_t (and_t (and_t (and_t (and_t (and_t (and_t (and_t (and_t (and_t (and_t ?_ ?_) ?_) ?_) ?_) ?_) ?_) ?_) ?_) ?_) ?_) ?_) ?_) ?_) ?_) ?_) ?_) ?_) ?_) ?_) ?_) ?_) ?_) ?_) ?_) ?_) ?_) ?_) ?_) ?_) ?_) ?_
 ·as_aux_lemma => kernel_rfl
 ·as_aux_lemma => kernel_rfl
 ·as_aux_lemma => kernel_rfl
 ·as_aux_lemma => kernel_rfl
 ·as_aux_lemma => kernel_rfl
 ·as_aux_lemma => kernel_rfl
 ·as_aux_lemma => kernel_rfl
 ·as_aux_lemma => kernel_rfl
 ·as_aux_lemma => kernel_rfl
 ·as_aux_lemma => kernel_rfl
 ·as_aux_lemma => kernel_rfl
 ·as_aux_lemma => kernel_rfl
 ·as_aux_lemma => kernel_rfl
 ·as_aux_lemma => kernel_rfl
 ·as_aux_lemma => kernel_rfl
 ·as_aux_lemma => kernel_rfl
 ·as_aux_lemma => kernel_rfl
 ·as_aux_lemma => kernel_rfl
 ·as_aux_lemma => kernel_rfl
 ·as_aux_lemma => kernel_rfl
 ·as_aux_lemma => kernel_rfl
 ·as_aux_lemma => kernel_rfl
 ·as_aux_lemma => kernel_rfl
 ·as_aux_lemma => kernel_rfl
 ·as_aux_lemma => kernel_rfl
 ·as_aux_lemma => kernel_rfl
 ·as_aux_lemma => kernel_rfl
 ·as_aux_lemma => kernel_rfl
 ·as_aux_lemma => kernel_rfl
 ·as_aux_lemma => kernel_rfl
 ·as_aux_lemma => kernel_rfl
 ·as_aux_lemma => kernel_rfl
theorem cueAsks_holds : Rows.CueAsksSaid :=
 OpenClaim.holds_of_wide 12 Tryz.f12 rfl rfl rfl rfl rfl rfl rfl ⟨rfl, rfl, rfl, rfl, rfl⟩ rfl rfl rfl rfl rfl cueAsks_named Tryz.func12 cueAsks_closed cueAsks_inst cueAsks_wrap
  (fun os started H enc _ => cueAsks_lifted os started H enc)
set_option maxHeartbeats 8000000 in
theorem cueAsks_card : Rows.CueAsksCardSaid :=
 Claim7.holds_tied_plain_at .later [] [.data, .data, .data, .data, .pinned] true (true, "d200c2f9484011b2fecf6d987098eee6f4d6857560912b686a09e1298a9b974d") true cueAsks_holds (fun _ h => by cases h) (by as_aux_lemma => kernel_rfl) (fun _ h => by cases h) cueAsks_row_tie rfl ⟨rfl, rfl⟩ (by as_aux_lemma => kernel_rfl) rfl
  (fun f fn hf hfn => by
   obtain rfl : f = 12 := Option.some.inj (cueAsks_named.symm.trans hf) |>.symm
   obtain rfl : fn = Tryz.f12 := (Option.some.inj (Tryz.func12.symm.trans hfn)).symm
   exact ⟨by as_aux_lemma => kernel_rfl, fun j t ht => by
    rw [Tryz.params12] at ht
    have hm : t ∈ [24, 40, 51] := by simpa using Array.mem_of_getElem? ht
    have hall : ([24, 40, 51].all fun u => !Tryz.prog.wantsStandIn u) = true := by kernel_rfl
    exact (show Tryz.prog.wantsStandIn t = false by simpa using List.all_eq_true.1 hall t hm)⟩)
  (by as_aux_lemma => kernel_rfl)
end Go.Proofs.YtdhdaadoehbopaaGreatDoor

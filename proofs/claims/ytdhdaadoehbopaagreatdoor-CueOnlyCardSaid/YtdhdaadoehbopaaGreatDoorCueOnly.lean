/-
  The law CueOnly of package kelirlaw04 returns true for every input, and each argument reads afterwards as it read before: the tied card. Conditions: what the row lists of package-level variables, tied to the text of the program.
-/
import Derived.Test.YtdhdaadoehbopaaGreatDoorCa
import Derived.Test.YtdhdaadoehbopaaGreatDoorVk
import Derived.Test.YtdhdaadoehbopaaGreatDoorVr
import Derived.Test.YtdhdaadoehbopaaGreatDoorRows
import Derived.Test.YtdhdaadoehbopaaGreatDoorTie
import Derived.Test.YtdhdaadoehbopaaGreatDoorCards
import Derived.SevenTiedAt

/-
  CueOnly: its walk. (Own work.)
-/
namespace Go.Vm
open Go.Proofs

theorem VOk.tunes {b : Book} {v : Vers} (h : VOk b v) : ∀ st ∈ v, ∀ m ∈ st, 0 ≤ m.2 ∧ m.2 < b.tunes := fun st hst m hm => by
  obtain ⟨_, h1, h2⟩ := (h.1 st hst).2 m hm
  omega

theorem VOk.begun {b : Book} {v : Vers} (hb : 0 ≤ b.cues) (h : VOk b v) {s : Int} (hs : 0 ≤ s ∧ s < v.length) : VOk b (begunV v s) := by
  obtain ⟨hv, h0⟩ := h.vers
  have h1 := begun_ok hv hs
  have h2 := begun_tunes h.tunes hs
  refine ⟨fun st hst => ⟨?_, fun m hm => ?_⟩, ?_⟩
  · have := (h1 st hst).1
    omega
  · have h3 := (h1 st hst).2 m hm
    have h4 := h2 st hst m hm
    rw [begun_length] at h3 ⊢
    unfold inI
    omega
  · rw [begun_length]; exact h.2

theorem pl_ne {v : Vers} {s : Nat} {l : List Int} (h : l ≠ []) : plays v s l ≠ [] := by
  intro e
  have := plays_length v l s
  rw [e] at this
  exact h (List.length_eq_zero_iff.1 this.symm)


set_option maxHeartbeats 8000000 in
set_option maxRecDepth 100000 in
theorem c_cueOnly (b : Book) (version : Int) (cues later : List Int) (H : List Blk) :
    ACall Tryz.prog 3 [eBook b, n' version, eInts cues, eInts later] H (.ret (.lit (.bool true))) H := by
  refine fn_rule (m := false) (fn := Tryz.f3) (c := (Tryz.f3.body).getD .skip) mixed (by kernel_rfl) (by kernel_rfl) (of_decide_eq_true (by kernel_rfl)) ?_ ?_ ?_ H
  · exact ⟨under_eBook 0 _, trivial, under_eInts 0 _, under_eInts 0 _, trivial⟩
  · trivial
  · refine CallG.wbool (.cons (fun H => WeakH.refl _ H) (.cons wk_nilE .nil)) (c_right b []) (fun hR => ?_) (fun hR => ?_)
    · obtain ⟨⟨⟨hsh, _⟩, hB⟩, _⟩ := hR
      refine CallG.bool (c_version hB.fit _) (fun h2 => ?_) (fun h2 => ?_)
      · refine If.mk (fun h3 => ?_) (fun h3 => ?_)
        · refine IfB.mk (fun _ => ?_) (fun e => by cases e)
          refine CallG.pure _ (known_call) ?_
          exact ⟨.inl rfl, FinG.mk _ rfl rfl rfl⟩
        · refine If.mk (fun h4 => ?_) (fun h4 => ?_)
          · refine IfB.mk (fun _ => ?_) (fun e => by cases e)
            refine CallG.pure _ (known_call) ?_
            exact ⟨.inl rfl, FinG.mk _ rfl rfl rfl⟩
          · refine CallG.bool (c_list hB.fit _ (by omega)) (fun h5 => ?_) (fun h5 => ?_)
            · refine CallG.bool (c_list hB.fit _ (by omega)) (fun h6 => ?_) (fun h6 => ?_)
              · refine Side.mk (fits64 (by omega)) ?_
                refine If.mk (fun h7 => ?_) (fun h7 => ?_)
                · refine IfB.mk (fun _ => ?_) (fun e => by cases e)
                  refine CallG.pure _ (known_call) ?_
                  exact ⟨.inl rfl, FinG.mk _ rfl rfl rfl⟩
                · refine IfB.mk (fun e => by cases e) (fun _ => ?_)
                  unfold inI at h2
                  have hi : version.toNat < b.vs.length := by omega
                  obtain ⟨v, hv⟩ : ∃ v, b.vs[version.toNat]? = some v := ⟨_, List.getElem?_eq_getElem hi⟩
                  have hvm : v ∈ b.vs := List.mem_of_getElem? hv
                  have hVO := hB.2 v hvm
                  obtain ⟨hvo, h0⟩ := hVO.vers
                  have h0c := hB.1.1.1
                  obtain ⟨hc1, hc2⟩ := h5.cues (by omega)
                  obtain ⟨hl1, hl2⟩ := h6.cues (by omega)
                  have hlen := hsh.len.2 v hvm
                  have hsv := hsh.1 v hvm
                  have has := after_lt hvo hc1 h0
                  have hall : LList b (cues ++ later) := ⟨by rw [List.length_append]; omega, fun c hc => (List.mem_append.1 hc).elim (h5.2 c) (h6.2 c)⟩
                  have hsr : (0 : Int) ≤ (after v 0 cues : Nat) ∧ ((after v 0 cues : Nat) : Int) < v.length := ⟨by omega, by omega⟩
                  have hVx := hVO.begun (by omega) hsr
                  have hBx : BOk ⟨b.cues, b.tunes, [begunV v (after v 0 cues : Nat)]⟩ := by
                    refine ⟨⟨hB.1.1, hB.1.2.1, by unfold inI; simp⟩, fun w hw => ?_⟩
                    rw [List.mem_singleton] at hw; subst hw
                    exact hVx
                  have hLx : BLen ⟨b.cues, b.tunes, [begunV v (after v 0 cues : Nat)]⟩ := by
                    refine ⟨by simp, fun w hw => ?_⟩
                    rw [List.mem_singleton] at hw; subst hw
                    obtain ⟨g1, g2, g3⟩ := hVx
                    have hbc := hB.1.1.2
                    refine ⟨by omega, fun st hst => ?_⟩
                    have g4 : (st.length : Int) = b.cues := (g1 st hst).1
                    omega
                  have hlaw := only_law hvo h0 hc1 hl1
                  by_cases e1 : cues = []
                  · subst e1
                    refine Ex.mk _ rfl ?_
                    by_cases e2 : later = []
                    · subst e2
                      refine Ex.mk _ rfl ?_
                      refine Ex.mk _ (jx_versions (r := version.toNat) (by omega) hv) ?_
                      refine Ex.mk _ rfl ?_
                      refine Ex.mk _ (jx_versions (r := version.toNat) (by omega) hv) ?_
                      refine Ex.mk _ rfl ?_
                      refine CallG.pure _ (c_after hvo h0 hc1 hc2) ?_
                      refine CallG.pure _ (c_begun (v := v) hsr (by have := hsv.2; omega) (fun st hst => by have := hsv.1 st hst; omega)) ?_
                      refine CallG.pure _ (c_plays_ok hsh.len hB (by omega) hv h5) ?_
                      refine CallG.weak _ (.cons (fun H => WeakH.refl _ H) (.cons (fun H => WeakH.refl _ H) (.cons wk_nil .nil))) (c_plays_ok hsh.len hB (by omega) hv hall) ?_
                      refine CallG.weak _ (.cons (fun H => wk_agg (.cons (fun H => WeakH.refl _ H) (.cons (fun H => WeakH.refl _ H) (.cons (WeakH.tail _ _ _) .nil)))) (.cons (fun H => WeakH.refl _ H) (.cons (fun H => WeakH.refl _ H) .nil))) (c_plays_ok hLx hBx (i := 0) (by omega) rfl h6) ?_
                      refine If.mk (fun _ => ?_) (fun h => absurd (by decide) h)
                      refine If.mk (fun _ => ?_) (fun h => absurd (by decide) h)
                      refine If.mk (fun _ => ?_) (fun h => absurd (by decide) h)
                      refine If.mk (fun _ => ?_) (fun h => absurd (by rw [plays_length]) h)
                      refine If.mk (fun _ => ?_) (fun h => absurd (by rw [plays_length]) h)
                      refine If.mk (fun _ => ?_) (fun h => absurd (by rw [plays_length]; rfl) h)
                      refine IfB.mk (fun e => by cases e) (fun _ => ?_)
                      refine Ex.mk _ rfl ?_
                      refine Ex.mk _ rfl ?_
                      refine CallG.wbool (.cons (fun H => WeakH.refl _ H) (.cons wk_nil .nil)) (c_same _ _ (by have := hall.1; rw [plays_length]; omega)) (fun h8 => ?_) (fun h8 => absurd hlaw h8)
                      refine CallG.pure _ (known_call) ?_
                      exact ⟨.inl rfl, FinG.mk _ rfl rfl rfl⟩
                    · refine ex_app _ _ (app_nilI e2 (by omega)) ?_
                      refine Ex.mk _ (jx_versions (r := version.toNat) (by omega) hv) ?_
                      refine Ex.mk _ rfl ?_
                      refine Ex.mk _ (jx_versions (r := version.toNat) (by omega) hv) ?_
                      refine Ex.mk _ rfl ?_
                      refine CallG.pure _ (c_after hvo h0 hc1 hc2) ?_
                      refine CallG.pure _ (c_begun (v := v) hsr (by have := hsv.2; omega) (fun st hst => by have := hsv.1 st hst; omega)) ?_
                      refine CallG.pure _ (c_plays_ok hsh.len hB (by omega) hv h5) ?_
                      refine CallG.weak _ (.cons (fun H => WeakH.refl _ H) (.cons (fun H => WeakH.refl _ H) (.cons wk_one .nil))) (c_plays_ok hsh.len hB (by omega) hv hall) ?_
                      refine CallG.weak _ (.cons (fun H => wk_agg (.cons (fun H => WeakH.refl _ H) (.cons (fun H => WeakH.refl _ H) (.cons (WeakH.tail _ _ _) .nil)))) (.cons (fun H => WeakH.refl _ H) (.cons (fun H => WeakH.refl _ H) .nil))) (c_plays_ok hLx hBx (i := 0) (by omega) rfl h6) ?_
                      refine If.mk (fun _ => ?_) (fun h => absurd (by decide) h)
                      refine If.mk (fun _ => ?_) (fun h => absurd (by decide) h)
                      refine If.mk (fun _ => ?_) (fun h => absurd (by decide) h)
                      refine If.mk (fun _ => ?_) (fun h => absurd (by rw [plays_length]) h)
                      refine If.mk (fun _ => ?_) (fun h => absurd (by rw [plays_length]) h)
                      refine If.mk (fun _ => ?_) (fun h => absurd (by rw [plays_length]) h)
                      refine IfB.mk (fun e => by cases e) (fun _ => ?_)
                      refine Ex.mk _ rfl ?_
                      refine ex_app _ _ (app_nilI (pl_ne e2) (by rw [plays_length]; omega)) ?_
                      refine CallG.wbool (.cons (fun H => WeakH.refl _ H) (.cons wk_one .nil)) (c_same _ _ (by have := hall.1; rw [plays_length]; omega)) (fun h8 => ?_) (fun h8 => absurd hlaw h8)
                      refine CallG.pure _ (known_call) ?_
                      exact ⟨.inl rfl, FinG.mk _ rfl rfl rfl⟩
                  · refine ex_app _ _ (app_nilI e1 (by omega)) ?_
                    by_cases e2 : later = []
                    · subst e2
                      rw [List.append_nil] at hall hlaw
                      refine Ex.mk _ rfl ?_
                      refine Ex.mk _ (jx_versions (r := version.toNat) (by omega) hv) ?_
                      refine Ex.mk _ rfl ?_
                      refine Ex.mk _ (jx_versions (r := version.toNat) (by omega) hv) ?_
                      refine Ex.mk _ rfl ?_
                      refine CallG.pure _ (c_after hvo h0 hc1 hc2) ?_
                      refine CallG.pure _ (c_begun (v := v) hsr (by have := hsv.2; omega) (fun st hst => by have := hsv.1 st hst; omega)) ?_
                      refine CallG.pure _ (c_plays_ok hsh.len hB (by omega) hv h5) ?_
                      refine CallG.weak _ (.cons (fun H => WeakH.refl _ H) (.cons (fun H => WeakH.refl _ H) (.cons wk_one .nil))) (c_plays_ok hsh.len hB (by omega) hv hall) ?_
                      refine CallG.weak _ (.cons (fun H => wk_agg (.cons (fun H => WeakH.refl _ H) (.cons (fun H => WeakH.refl _ H) (.cons (WeakH.tail _ _ _) .nil)))) (.cons (fun H => WeakH.refl _ H) (.cons (fun H => WeakH.refl _ H) .nil))) (c_plays_ok hLx hBx (i := 0) (by omega) rfl h6) ?_
                      refine If.mk (fun _ => ?_) (fun h => absurd (by decide) h)
                      refine If.mk (fun _ => ?_) (fun h => absurd (by decide) h)
                      refine If.mk (fun _ => ?_) (fun h => absurd (by decide) h)
                      refine If.mk (fun _ => ?_) (fun h => absurd (by rw [plays_length]) h)
                      refine If.mk (fun _ => ?_) (fun h => absurd (by rw [plays_length]) h)
                      refine If.mk (fun _ => ?_) (fun h => absurd (by rw [plays_length]) h)
                      refine IfB.mk (fun e => by cases e) (fun _ => ?_)
                      refine ex_app _ _ (app_nilI (pl_ne e1) (by rw [plays_length]; omega)) ?_
                      refine Ex.mk _ rfl ?_
                      refine CallG.wbool (.cons (fun H => WeakH.refl _ H) (.cons wk_one .nil)) (c_same _ _ (by have := hall.1; rw [plays_length]; omega)) (fun h8 => ?_) (fun h8 => absurd rfl h8)
                      refine CallG.pure _ (known_call) ?_
                      exact ⟨.inl rfl, FinG.mk _ rfl rfl rfl⟩
                    · refine ex_app _ _ (app_ownI e2 (by omega) rfl) ?_
                      refine Ex.mk _ (jx_versions (r := version.toNat) (by omega) hv) ?_
                      refine Ex.mk _ rfl ?_
                      refine Ex.mk _ (jx_versions (r := version.toNat) (by omega) hv) ?_
                      refine Ex.mk _ rfl ?_
                      refine CallG.pure _ (c_after hvo h0 hc1 hc2) ?_
                      refine CallG.pure _ (c_begun (v := v) hsr (by have := hsv.2; omega) (fun st hst => by have := hsv.1 st hst; omega)) ?_
                      refine CallG.pure _ (c_plays_ok hsh.len hB (by omega) hv h5) ?_
                      refine CallG.weak _ (.cons (fun H => WeakH.refl _ H) (.cons (fun H => WeakH.refl _ H) (.cons wk_app .nil))) (c_plays_ok hsh.len hB (by omega) hv hall) ?_
                      refine CallG.weak _ (.cons (fun H => wk_agg (.cons (fun H => WeakH.refl _ H) (.cons (fun H => WeakH.refl _ H) (.cons (WeakH.tail _ _ _) .nil)))) (.cons (fun H => WeakH.refl _ H) (.cons (fun H => WeakH.refl _ H) .nil))) (c_plays_ok hLx hBx (i := 0) (by omega) rfl h6) ?_
                      refine If.mk (fun _ => ?_) (fun h => absurd (by decide) h)
                      refine If.mk (fun _ => ?_) (fun h => absurd (by decide) h)
                      refine If.mk (fun _ => ?_) (fun h => absurd (by decide) h)
                      refine If.mk (fun _ => ?_) (fun h => absurd (by rw [plays_length]) h)
                      refine If.mk (fun _ => ?_) (fun h => absurd (by rw [plays_length]) h)
                      refine If.mk (fun _ => ?_) (fun h => absurd (by rw [plays_length, List.length_append]) h)
                      refine IfB.mk (fun e => by cases e) (fun _ => ?_)
                      refine ex_app _ _ (app_nilI (pl_ne e1) (by rw [plays_length]; omega)) ?_
                      refine ex_app _ _ (app_ownI (pl_ne e2) (by rw [plays_length, plays_length]; omega) rfl) ?_
                      refine CallG.wbool (.cons (fun H => WeakH.refl _ H) (.cons wk_app .nil)) (c_same _ _ (by have := hall.1; rw [plays_length]; omega)) (fun h8 => ?_) (fun h8 => absurd hlaw h8)
                      refine CallG.pure _ (known_call) ?_
                      exact ⟨.inl rfl, FinG.mk _ rfl rfl rfl⟩
              · refine IfB.mk (fun _ => ?_) (fun e => by cases e)
                refine CallG.pure _ (known_call) ?_
                exact ⟨.inl rfl, FinG.mk _ rfl rfl rfl⟩
            · refine IfB.mk (fun _ => ?_) (fun e => by cases e)
              refine CallG.pure _ (known_call) ?_
              exact ⟨.inl rfl, FinG.mk _ rfl rfl rfl⟩
      · refine IfB.mk (fun _ => ?_) (fun e => by cases e)
        refine CallG.pure _ (known_call) ?_
        exact ⟨.inl rfl, FinG.mk _ rfl rfl rfl⟩
    · refine IfB.mk (fun _ => ?_) (fun e => by cases e)
      refine CallG.pure _ (known_call) ?_
      exact ⟨.inl rfl, FinG.mk _ rfl rfl rfl⟩
end Go.Vm

/-
  CueOnly: the row and its card. (Own work; printed by gen_law.py.)
-/
namespace Go.Proofs.YtdhdaadoehbopaaGreatDoor
open Go.Vm Go.ChangeShapes Go.WideShapes Go.ChangeAt Go.RowKit

set_option maxHeartbeats 8000000 in
set_option maxRecDepth 100000 in
theorem cueOnly_lifted (os : Os) (started : os.Started) (H : Type) (enc : TypeId × Value → H) :
    ReturnsInHanded {} Tryz.checked os 3 .any (fun w args => (Rows.cueOnlySpec.pre enc Tryz.prog Tryz.f3 Rows.cueOnlyRow.domain false w args ∧ laidMetH Tryz.prog Rows.cueOnlyRow.laid w) ∧ sizedMet enc Tryz.prog Tryz.f3 (OpenSpec.ofChange Rows.cueOnlySpec) false w args)
      (Rows.cueOnlySpec.post enc Tryz.prog Tryz.f3 false true false false) := by
  refine returnsInHanded_of_change_and (C := Tryz.checked) (X := fun w _ => laidMetH Tryz.prog Rows.cueOnlyRow.laid w) (fun _ _ _ hh h => h.of_heap hh) own started (by kernel_rfl) Tryz.func3
    (ChangeSpec.witness_shaped (enc := enc) (C := Tryz.checked) (os := os) (X := fun w _ => laidMetH Tryz.prog Rows.cueOnlyRow.laid w) false (World.laidAll Tryz.prog os Rows.cueOnlyRow.laid) #[.agg #[.int .i64 0, .int .i64 0, .slice none 0 0], .int .i64 0, .slice none 0 0, .slice none 0 0] 8 (World.laidAll_os _ _ _)
      (World.shaped_of_ZipB (by kernel_rfl) (by kernel_rfl)) (by kernel_rfl) (by kernel_rfl) (by kernel_rfl)
      (by rw [MakeChecks.laidMetH_plain _ _ _ (by kernel_rfl)]; exact laidMet_laidAll _ (by kernel_rfl) (by kernel_rfl))) ?_
  intro W base args ds gs before hval0 hW _ _ _ _
  have hval : ∀ (j : Nat) t v, Tryz.f3.params[j]? = some t → args[j]? = some v → Value.okWide Tryz.prog W .any base t v := hval0
  have hW' := hW
  obtain ⟨p, q, hA0, hV, rfl, _, _⟩ := hW
  have hA : DataW.TrodAll enc Tryz.prog W 0 (fun _ => true) true Tryz.f3.params.toList args.toList ds p := hA0
  rw [Tryz.params3] at hA hval
  obtain ⟨v0, v1, v2, v3, d0, d1, d2, d3, p0, p1, p2, p3, rfl, rfl, rfl, h0, h1, h2, h3⟩ := trodAll_four hA
  obtain ⟨rfl, rfl⟩ := trodVars_none hV
  obtain ⟨x0, r0, _⟩ := arg_book (hval 0 24 v0 rfl rfl) h0
  obtain ⟨x1, r1, _⟩ := arg_int (hval 1 3 v1 rfl rfl) h1
  obtain ⟨x2, r2, _⟩ := arg_ints (hval 2 25 v2 rfl rfl) h2
  obtain ⟨x3, r3, _⟩ := arg_ints (hval 3 25 v3 rfl rfl) h3
  refine (law_calls (c_cueOnly x0 x1 x2 x3) (by simp only [VRels, and_true]; exact ⟨r0, r1, r2, r3⟩)).mono ?_
  rintro e W' ⟨rfl, hk⟩
  exact ⟨_, rfl, law_post laidOut (by kernel_rfl) (by kernel_rfl) (by kernel_rfl) hW' rfl rfl hk⟩

theorem cueOnly_named : Tryz.pinned.checked.prog.funcNamed Rows.cueOnlyRow.func = some 3 := by kernel_rfl
theorem cueOnly_inst : Tryz.f3.isInstance Tryz.pinned.checked.prog Rows.cueOnlyRow.origin Rows.cueOnlyRow.targs := of_decide_eq_true (by kernel_rfl)
theorem cueOnly_wrap : Tryz.f3.isWrapper Tryz.pinned.checked.prog Rows.cueOnlyRow.wrapper Rows.cueOnlyRow.mainSum := by unfold Func.isWrapper; first | (rw [if_pos (by decide +kernel)]; kernel_rfl) | (rw [if_neg (by decide +kernel)]; exact ⟨rfl, rfl⟩)
set_option maxHeartbeats 8000000 in
theorem cueOnly_closed : joinedFacts Tryz.pinned.checked.prog 3 Tryz.f3 Rows.cueOnlySpec Rows.cueOnlyRow = true := by
  unfold joinedFacts
  refine and_t (and_t (and_t (and_t (and_t (and_t (and_t (and_t (and_t (and_t (and_t (and_t (and_t (and_t (and_t (and_t (and_t (and_t (and_t (and_t (and_t (and_t (and_t (and_t (and_t (and_t (and_t (and_t (and_t (and_t (and_t ?_ ?_) ?_) ?_) ?_) ?_) ?_) ?_) ?_) ?_) ?_) ?_) ?_) ?_) ?_) ?_) ?_) ?_) ?_) ?_) ?_) ?_) ?_) ?_) ?_) ?_) ?_) ?_) ?_) ?_) ?_) ?_
  · as_aux_lemma => kernel_rfl
  · as_aux_lemma => kernel_rfl
  · as_aux_lemma => kernel_rfl
  · as_aux_lemma => kernel_rfl
  · as_aux_lemma => kernel_rfl
  · as_aux_lemma => kernel_rfl
  · as_aux_lemma => kernel_rfl
  · as_aux_lemma => kernel_rfl
  · as_aux_lemma => kernel_rfl
  · as_aux_lemma => kernel_rfl
  · as_aux_lemma => kernel_rfl
  · as_aux_lemma => kernel_rfl
  · as_aux_lemma => kernel_rfl
  · as_aux_lemma => kernel_rfl
  · as_aux_lemma => kernel_rfl
  · as_aux_lemma => kernel_rfl
  · as_aux_lemma => kernel_rfl
  · as_aux_lemma => kernel_rfl
  · as_aux_lemma => kernel_rfl
  · as_aux_lemma => kernel_rfl
  · as_aux_lemma => kernel_rfl
  · as_aux_lemma => kernel_rfl
  · as_aux_lemma => kernel_rfl
  · as_aux_lemma => kernel_rfl
  · as_aux_lemma => kernel_rfl
  · as_aux_lemma => kernel_rfl
  · as_aux_lemma => kernel_rfl
  · as_aux_lemma => kernel_rfl
  · as_aux_lemma => kernel_rfl
  · as_aux_lemma => kernel_rfl
  · as_aux_lemma => kernel_rfl
  · as_aux_lemma => kernel_rfl

theorem cueOnly_holds : Rows.CueOnlySaid :=
  OpenClaim.holds_of_wide 3 Tryz.f3 rfl rfl rfl rfl rfl rfl rfl ⟨rfl, rfl, rfl, rfl, rfl⟩ rfl rfl rfl rfl rfl cueOnly_named Tryz.func3 cueOnly_closed cueOnly_inst cueOnly_wrap
    (fun os started H enc _ => cueOnly_lifted os started H enc)

set_option maxHeartbeats 8000000 in
theorem cueOnly_card : Rows.CueOnlyCardSaid :=
  Claim7.holds_tied_plain_at .later [] [.data, .data, .data, .data, .pinned] true (true, "d200c2f9484011b2fecf6d987098eee6f4d6857560912b686a09e1298a9b974d") true cueOnly_holds (fun _ h => by cases h) (by as_aux_lemma => kernel_rfl) (fun _ h => by cases h) cueOnly_row_tie rfl ⟨rfl, rfl⟩ (by as_aux_lemma => kernel_rfl) rfl
    (fun f fn hf hfn => by
      obtain rfl : f = 3 := Option.some.inj (cueOnly_named.symm.trans hf) |>.symm
      obtain rfl : fn = Tryz.f3 := (Option.some.inj (Tryz.func3.symm.trans hfn)).symm
      exact ⟨by as_aux_lemma => kernel_rfl, fun j t ht => by
        rw [Tryz.params3] at ht
        have hm : t ∈ [24, 3, 25, 25] := by simpa using Array.mem_of_getElem? ht
        have hall : ([24, 3, 25, 25].all fun u => !Tryz.prog.wantsStandIn u) = true := by kernel_rfl
        exact (show Tryz.prog.wantsStandIn t = false by simpa using List.all_eq_true.1 hall t hm)⟩)
    (by as_aux_lemma => kernel_rfl)
end Go.Proofs.YtdhdaadoehbopaaGreatDoor

/-
  The law CueNevers of package kelirlaw04 returns true for every input, and each argument reads afterwards as it read before: the tied card. Conditions: what the row lists of package-level variables, tied to the text of the program.
-/
import Derived.Test.YtdhdaadoehbopaaGreatDoorCn
import Derived.Test.YtdhdaadoehbopaaGreatDoorCm
import Derived.Test.YtdhdaadoehbopaaGreatDoorCl
import Derived.Test.YtdhdaadoehbopaaGreatDoorCo
import Derived.Test.YtdhdaadoehbopaaGreatDoorCj
import Derived.Test.YtdhdaadoehbopaaGreatDoorVk
import Derived.Test.YtdhdaadoehbopaaGreatDoorVr
import Derived.Test.YtdhdaadoehbopaaGreatDoorRows
import Derived.Test.YtdhdaadoehbopaaGreatDoorTie
import Derived.Test.YtdhdaadoehbopaaGreatDoorCards
import Derived.SevenTiedAt

/-
  CueNevers: its walk. (Own work.)
-/
namespace Go.Vm
open Go.Proofs

theorem danger_same {v : Vers} {k : Nat} {tune : Int} {o o' : Option (List Nat)} (hv : VersOk v k) (hv0 : 0 < v.length) (h : Found (nextD v tune []) (fun p : Pt => p.2 = true) (0, false) k o) (h' : RDang v k tune [] o') : o = o' := by
  have ha : ∀ u : List Nat, Avoids [] u := fun _ _ _ h => by cases h
  cases o with
  | none =>
    cases o' with
    | none => rfl
    | some l =>
      obtain ⟨k1, _, k3, _⟩ := h'.yes l rfl
      exact absurd k3 (danger_none h rfl l k1)
  | some l =>
    obtain ⟨k1, k2, _, k4⟩ := danger_some hv hv0 h
    cases o' with
    | none => exact absurd k2 (h'.no rfl l k1 (ha l))
    | some l' =>
      obtain ⟨j1, _, j3, _, j5⟩ := h'.yes l' rfl
      obtain ⟨g1, g2⟩ := le_ints (k4 l' j1 j3)
      rw [cuesI_length, cuesI_length] at g1 g2
      rcases j5 l k1 (ha l) k2 with h3 | ⟨h3, h4 | h4⟩
      · exact absurd h3 g1
      · rw [h4]
      · exact absurd h4 (g2 h3)

theorem app_evNil {g : Nat → Option Blk} {n : Nat} {l : List Evening} (h : l ≠ []) (hl : l.length ≤ 2097152) : appT Tryz.prog false g n 40 40 (.lit (.slice none 0 0)) (eEvenings l) = some (.sl l.length (l.flatMap cEvening) (.own n 0 2), .push (.row 0)) :=
  appT_nil (e := 51) (bytes := 48) (z := .agg #[.slice none 0 0, .slice none 0 0]) (by kernel_rfl) (by kernel_rfl) (by kernel_rfl) (by kernel_rfl) (by kernel_rfl) (src_evenings g l _) (List.length_pos_iff.2 h) hl
theorem app_ev1 {g : Nat → Option Blk} {n : Nat} {e : Evening} : appT Tryz.prog false g n 40 40 (.lit (.slice none 0 0)) (.sl 1 (cEvening e) .full) = some (.sl 1 (cEvening e) (.own n 0 2), .push (.row 0)) :=
  appT_nil (e := 51) (bytes := 48) (z := .agg #[.slice none 0 0, .slice none 0 0]) (by kernel_rfl) (by kernel_rfl) (by kernel_rfl) (by kernel_rfl) (by kernel_rfl) rfl (by omega) (by omega)

set_option maxRecDepth 100000 in
theorem c_Fence_no {b : Book} (hl : BLen b) (i tune : Int) (hP : ¬ (BOk b ∧ inI i 0 (b.vs.length - 1) ∧ inI tune 0 (b.tunes - 1))) (H : List Blk) : ACall Tryz.prog 73 [eBook b, n' i, n' tune] H (.ret (.tup [.lit (.slice none 0 0), .lit (.int .i64 2)])) H := by
  refine fn_rule (m := false) (fn := Tryz.f73) (c := (Tryz.f73.body).getD .skip) mixed (by kernel_rfl) (by kernel_rfl) (of_decide_eq_true (by kernel_rfl)) ?_ ?_ ?_ H
  · exact ⟨under_eBook 0 _, trivial, trivial, trivial⟩
  · exact ⟨trivial, trivial, trivial⟩
  · refine CallG.bool (c_isBook hl) (fun hB => ?_) (fun _ => ?_)
    · refine CallG.bool (c_hasVersion hB.fit i) (fun h2 => ?_) (fun _ => ?_)
      · refine CallG.bool (c_hasTune hB.fit tune) (fun h3 => absurd ⟨hB, h2, h3⟩ hP) (fun _ => ?_)
        refine IfB.mk (fun _ => ?_) (fun e => by cases e)
        exact ⟨.inl rfl, FinG.mk _ rfl rfl rfl⟩
      · refine IfB.mk (fun _ => ?_) (fun e => by cases e)
        exact ⟨.inl rfl, FinG.mk _ rfl rfl rfl⟩
    · refine IfB.mk (fun _ => ?_) (fun e => by cases e)
      exact ⟨.inl rfl, FinG.mk _ rfl rfl rfl⟩


set_option maxHeartbeats 8000000 in
set_option maxRecDepth 100000 in
theorem c_cueNevers (b : Book) (version tune : Int) (evs : List Evening) (now : Evening) (H : List Blk) : ACall Tryz.prog 20 [eBook b, n' version, n' tune, eEvenings evs, eEvening now] H (.ret (.lit (.bool true))) H := by
  refine fn_rule (m := false) (fn := Tryz.f20) (c := (Tryz.f20.body).getD .skip) mixed (by kernel_rfl) (by kernel_rfl) (of_decide_eq_true (by kernel_rfl)) ?_ ?_ ?_ H
  · exact ⟨under_eBook 0 _, trivial, trivial, under_eEvenings 0 _, under_eEvening 0 _, trivial⟩
  · trivial
  · refine CallG.bool (c_short _) (fun hsh => ?_) (fun _ => ?_)
    · refine CallG.bool (c_brief _) (fun hbr => ?_) (fun _ => ?_)
      · refine CallG.bool (c_slim _) (fun hsl => ?_) (fun _ => ?_)
        · refine IfB.mk (fun e => by cases e) (fun _ => ?_)
          have hlen : evs.length < 4611686018427387904 := by have := hbr.2; omega
          have hle : ∀ e ∈ evs, e.1.length < 4611686018427387904 ∧ e.2.length < 4611686018427387904 := fun e he => by
            have := hbr.1 e he
            unfold Slim at this
            omega
          have hsl' := hsl
          unfold Slim at hsl'
          have hn1 : now.1.length < 4611686018427387904 := by omega
          have hn2 : now.2.length < 4611686018427387904 := by omega
          by_cases hG : BOk b ∧ inI tune 0 (b.tunes - 1)
          · obtain ⟨hB, ht⟩ := hG
            have hbc := hB.1.1
            have hvn := hB.1.2.2
            unfold inI at hbc hvn
            by_cases hC : EvsOk b evs ∧ EvOk b now
            · obtain ⟨hE, hN⟩ := hC
              have hel := hE.2
              have hev : ∀ e ∈ evs ++ [now], EvOk b e := fun e he => by
                rcases List.mem_append.1 he with he | he
                · exact hE.1 e he
                · rw [List.mem_singleton] at he; subst he; exact hN
              obtain ⟨hc1, hc2⟩ := hN.1.1.cues (by omega)
              have hRl := remL_length b.vs (evs ++ [now]) b.vs.length
              have hmem : ∀ j ∈ remL b.vs (evs ++ [now]) b.vs.length, 0 ≤ j ∧ j < b.vs.length := fun j hj => remL_mem hj
              have hbl := badL_length b (remL b.vs (evs ++ [now]) b.vs.length) now.1 tune b.cues.toNat
              by_cases hne : remL b.vs (evs ++ [now]) b.vs.length = []
              · by_cases h2 : inI version 0 (b.vs.length - 1)
                · have hi := h2
                  unfold inI at hi
                  obtain ⟨v, hv⟩ : ∃ v, b.vs[version.toNat]? = some v := ⟨_, List.getElem?_eq_getElem (by omega)⟩
                  obtain ⟨hvo, hv0⟩ := (hB.2 v (List.mem_of_getElem? hv)).vers
                  have hv4 := (hB.2 v (List.mem_of_getElem? hv)).2
                  unfold inI at hv4
                  obtain ⟨hf1, _, _⟩ := fence_props (v := v) (tune := tune) b.cues.toNat
                  have hfl := incr_length hf1 (Nat.zero_le _)
                  obtain ⟨o, hD, hcD⟩ := c_Danger hsh.len hB h2 hv ht
                  obtain ⟨_, ⟨o', rfl, hR⟩, hrd⟩ := c_refDangerO hvo hv0 (by omega) hB.1.1 tune [] (by simp)
                  obtain rfl := danger_same hvo hv0 hD hR
                  cases o with
                  | none =>
                    refine CallG.pure _ (hcD) ?_
                    refine CallG.pure _ (c_Fence hsh.len hB h2 hv ht) ?_
                    refine CallG.pure _ (c_Never_none hsh.len hB hE hN ht hne) ?_
                    refine CallG.bool (c_book hsh.len) (fun _ => ?_) (fun x => absurd hB x)
                    refine CallG.bool (c_tune hB.fit _) (fun _ => ?_) (fun x => absurd ht x)
                    refine IfB.mk (fun e => by cases e) (fun _ => ?_)
                    refine CallG.bool (c_version hB.fit _) (fun _ => ?_) (fun x => absurd h2 x)
                    refine IfB.mk (fun e => by cases e) (fun _ => ?_)
                    refine Ex.mk _ (jx_versions (r := version.toNat) (by omega) hv) ?_
                    refine Ex.mk _ rfl ?_
                    refine CallG.weak _ (.cons (fun H => WeakH.refl _ H) (.cons (fun H => WeakH.refl _ H) (.cons (fun H => WeakH.refl _ H) (.cons (fun H => WeakH.nil H) (.nil))))) (fun H => hrd H) ?_
                    refine If.mk (fun _ => ?_) (fun h => absurd (by decide) h)
                    refine If.mk (fun _ => ?_) (fun h => absurd (by decide) h)
                    refine If.mk (fun _ => ?_) (fun h => absurd (by decide) h)
                    refine Ex.mk _ (jx_versions (r := version.toNat) (by omega) hv) ?_
                    refine Ex.mk _ rfl ?_
                    refine CallG.pure _ (c_refFence hvo hv0 (by omega) hB.1.1 tune) ?_
                    refine CallG.bool (c_same _ _ (by omega)) (fun _ => ?_) (fun x => absurd rfl x)
                    refine IfB.mk (fun e => by cases e) (fun _ => ?_)
                    refine CallG.bool (c_evenings hB.fit _ hlen hle) (fun _ => ?_) (fun x => absurd hE x)
                    refine CallG.bool (c_evening hB.fit _ hn1 hn2) (fun _ => ?_) (fun x => absurd hN x)
                    refine IfB.mk (fun e => by cases e) (fun _ => ?_)
                    by_cases hen : evs = []
                    · subst hen
                      refine Ex.mk _ rfl ?_
                      refine ex_app _ _ (app_ev1 (g := fun _ => none)) ?_
                      refine CallG.weak _ (.cons (fun H => WeakH.refl _ H) (.cons (wk_evs (l := [])) .nil)) (c_refRemains hB hev (by simp)) ?_
                      rw [hne]
                      refine If.mk (fun _ => ?_) (fun h => absurd (by decide) h)
                      refine IfB.mk (fun _ => ?_) (fun e => by cases e)
                      refine If.mk (fun _ => ?_) (fun h => absurd (by decide) h)
                      refine If.mk (fun _ => ?_) (fun h => absurd (by decide) h)
                      refine CallG.pure _ (known_call) ?_
                      exact ⟨.inl rfl, FinG.mk _ rfl rfl rfl⟩
                    · refine ex_app _ _ (app_evNil hen (by omega)) ?_
                      refine ex_app _ _ (app_evening (flat2_length (fun _ => rfl) _) (by omega) rfl) ?_
                      refine CallG.weak _ (.cons (fun H => WeakH.refl _ H) (.cons wk_evs .nil)) (c_refRemains hB hev (by rw [List.length_append]; simp; omega)) ?_
                      rw [hne]
                      refine If.mk (fun _ => ?_) (fun h => absurd (by decide) h)
                      refine IfB.mk (fun _ => ?_) (fun e => by cases e)
                      refine If.mk (fun _ => ?_) (fun h => absurd (by decide) h)
                      refine If.mk (fun _ => ?_) (fun h => absurd (by decide) h)
                      refine CallG.pure _ (known_call) ?_
                      exact ⟨.inl rfl, FinG.mk _ rfl rfl rfl⟩
                  | some l =>
                    have hX := (hR.yes l rfl).2.2.2.1
                    have hcl := cuesI_length l
                    refine CallG.pure _ (hcD) ?_
                    refine CallG.pure _ (c_Fence hsh.len hB h2 hv ht) ?_
                    refine CallG.pure _ (c_Never_none hsh.len hB hE hN ht hne) ?_
                    refine CallG.bool (c_book hsh.len) (fun _ => ?_) (fun x => absurd hB x)
                    refine CallG.bool (c_tune hB.fit _) (fun _ => ?_) (fun x => absurd ht x)
                    refine IfB.mk (fun e => by cases e) (fun _ => ?_)
                    refine CallG.bool (c_version hB.fit _) (fun _ => ?_) (fun x => absurd h2 x)
                    refine IfB.mk (fun e => by cases e) (fun _ => ?_)
                    refine Ex.mk _ (jx_versions (r := version.toNat) (by omega) hv) ?_
                    refine Ex.mk _ rfl ?_
                    refine CallG.weak _ (.cons (fun H => WeakH.refl _ H) (.cons (fun H => WeakH.refl _ H) (.cons (fun H => WeakH.refl _ H) (.cons (fun H => WeakH.nil H) (.nil))))) (fun H => hrd H) ?_
                    refine If.mk (fun _ => ?_) (fun h => absurd (by decide) h)
                    refine CallG.bool (c_same _ _ (by omega)) (fun _ => ?_) (fun x => absurd rfl x)
                    refine If.mk (fun _ => ?_) (fun h => absurd (by decide) h)
                    refine Ex.mk _ (jx_versions (r := version.toNat) (by omega) hv) ?_
                    refine Ex.mk _ rfl ?_
                    refine CallG.pure _ (c_refFence hvo hv0 (by omega) hB.1.1 tune) ?_
                    refine CallG.bool (c_same _ _ (by omega)) (fun _ => ?_) (fun x => absurd rfl x)
                    refine IfB.mk (fun e => by cases e) (fun _ => ?_)
                    refine CallG.bool (c_evenings hB.fit _ hlen hle) (fun _ => ?_) (fun x => absurd hE x)
                    refine CallG.bool (c_evening hB.fit _ hn1 hn2) (fun _ => ?_) (fun x => absurd hN x)
                    refine IfB.mk (fun e => by cases e) (fun _ => ?_)
                    by_cases hen : evs = []
                    · subst hen
                      refine Ex.mk _ rfl ?_
                      refine ex_app _ _ (app_ev1 (g := fun _ => none)) ?_
                      refine CallG.weak _ (.cons (fun H => WeakH.refl _ H) (.cons (wk_evs (l := [])) .nil)) (c_refRemains hB hev (by simp)) ?_
                      rw [hne]
                      refine If.mk (fun _ => ?_) (fun h => absurd (by decide) h)
                      refine IfB.mk (fun _ => ?_) (fun e => by cases e)
                      refine If.mk (fun _ => ?_) (fun h => absurd (by decide) h)
                      refine If.mk (fun _ => ?_) (fun h => absurd (by decide) h)
                      refine CallG.pure _ (known_call) ?_
                      exact ⟨.inl rfl, FinG.mk _ rfl rfl rfl⟩
                    · refine ex_app _ _ (app_evNil hen (by omega)) ?_
                      refine ex_app _ _ (app_evening (flat2_length (fun _ => rfl) _) (by omega) rfl) ?_
                      refine CallG.weak _ (.cons (fun H => WeakH.refl _ H) (.cons wk_evs .nil)) (c_refRemains hB hev (by rw [List.length_append]; simp; omega)) ?_
                      rw [hne]
                      refine If.mk (fun _ => ?_) (fun h => absurd (by decide) h)
                      refine IfB.mk (fun _ => ?_) (fun e => by cases e)
                      refine If.mk (fun _ => ?_) (fun h => absurd (by decide) h)
                      refine If.mk (fun _ => ?_) (fun h => absurd (by decide) h)
                      refine CallG.pure _ (known_call) ?_
                      exact ⟨.inl rfl, FinG.mk _ rfl rfl rfl⟩
                · refine CallG.pure _ (c_Danger_no hsh.len version tune (fun x => h2 x.2.1)) ?_
                  refine CallG.pure _ (c_Fence_no hsh.len version tune (fun x => h2 x.2.1)) ?_
                  refine CallG.pure _ (c_Never_none hsh.len hB hE hN ht hne) ?_
                  refine CallG.bool (c_book hsh.len) (fun _ => ?_) (fun x => absurd hB x)
                  refine CallG.bool (c_tune hB.fit _) (fun _ => ?_) (fun x => absurd ht x)
                  refine IfB.mk (fun e => by cases e) (fun _ => ?_)
                  refine CallG.bool (c_version hB.fit _) (fun x => absurd x h2) (fun _ => ?_)
                  refine IfB.mk (fun _ => ?_) (fun e => by cases e)
                  refine If.mk (fun _ => ?_) (fun h => absurd (by decide) h)
                  refine If.mk (fun _ => ?_) (fun h => absurd (by decide) h)
                  refine If.mk (fun _ => ?_) (fun h => absurd (by decide) h)
                  refine If.mk (fun _ => ?_) (fun h => absurd (by decide) h)
                  refine IfB.mk (fun e => by cases e) (fun _ => ?_)
                  refine CallG.bool (c_evenings hB.fit _ hlen hle) (fun _ => ?_) (fun x => absurd hE x)
                  refine CallG.bool (c_evening hB.fit _ hn1 hn2) (fun _ => ?_) (fun x => absurd hN x)
                  refine IfB.mk (fun e => by cases e) (fun _ => ?_)
                  by_cases hen : evs = []
                  · subst hen
                    refine Ex.mk _ rfl ?_
                    refine ex_app _ _ (app_ev1 (g := fun _ => none)) ?_
                    refine CallG.weak _ (.cons (fun H => WeakH.refl _ H) (.cons (wk_evs (l := [])) .nil)) (c_refRemains hB hev (by simp)) ?_
                    rw [hne]
                    refine If.mk (fun _ => ?_) (fun h => absurd (by decide) h)
                    refine IfB.mk (fun _ => ?_) (fun e => by cases e)
                    refine If.mk (fun _ => ?_) (fun h => absurd (by decide) h)
                    refine If.mk (fun _ => ?_) (fun h => absurd (by decide) h)
                    refine CallG.pure _ (known_call) ?_
                    exact ⟨.inl rfl, FinG.mk _ rfl rfl rfl⟩
                  · refine ex_app _ _ (app_evNil hen (by omega)) ?_
                    refine ex_app _ _ (app_evening (flat2_length (fun _ => rfl) _) (by omega) rfl) ?_
                    refine CallG.weak _ (.cons (fun H => WeakH.refl _ H) (.cons wk_evs .nil)) (c_refRemains hB hev (by rw [List.length_append]; simp; omega)) ?_
                    rw [hne]
                    refine If.mk (fun _ => ?_) (fun h => absurd (by decide) h)
                    refine IfB.mk (fun _ => ?_) (fun e => by cases e)
                    refine If.mk (fun _ => ?_) (fun h => absurd (by decide) h)
                    refine If.mk (fun _ => ?_) (fun h => absurd (by decide) h)
                    refine CallG.pure _ (known_call) ?_
                    exact ⟨.inl rfl, FinG.mk _ rfl rfl rfl⟩
              · by_cases h2 : inI version 0 (b.vs.length - 1)
                · have hi := h2
                  unfold inI at hi
                  obtain ⟨v, hv⟩ : ∃ v, b.vs[version.toNat]? = some v := ⟨_, List.getElem?_eq_getElem (by omega)⟩
                  obtain ⟨hvo, hv0⟩ := (hB.2 v (List.mem_of_getElem? hv)).vers
                  have hv4 := (hB.2 v (List.mem_of_getElem? hv)).2
                  unfold inI at hv4
                  obtain ⟨hf1, _, _⟩ := fence_props (v := v) (tune := tune) b.cues.toNat
                  have hfl := incr_length hf1 (Nat.zero_le _)
                  obtain ⟨o, hD, hcD⟩ := c_Danger hsh.len hB h2 hv ht
                  obtain ⟨_, ⟨o', rfl, hR⟩, hrd⟩ := c_refDangerO hvo hv0 (by omega) hB.1.1 tune [] (by simp)
                  obtain rfl := danger_same hvo hv0 hD hR
                  cases o with
                  | none =>
                    refine CallG.pure _ (hcD) ?_
                    refine CallG.pure _ (c_Fence hsh.len hB h2 hv ht) ?_
                    refine CallG.pure _ (c_Never hsh.len hB hE hN ht hne) ?_
                    refine CallG.bool (c_book hsh.len) (fun _ => ?_) (fun x => absurd hB x)
                    refine CallG.bool (c_tune hB.fit _) (fun _ => ?_) (fun x => absurd ht x)
                    refine IfB.mk (fun e => by cases e) (fun _ => ?_)
                    refine CallG.bool (c_version hB.fit _) (fun _ => ?_) (fun x => absurd h2 x)
                    refine IfB.mk (fun e => by cases e) (fun _ => ?_)
                    refine Ex.mk _ (jx_versions (r := version.toNat) (by omega) hv) ?_
                    refine Ex.mk _ rfl ?_
                    refine CallG.weak _ (.cons (fun H => WeakH.refl _ H) (.cons (fun H => WeakH.refl _ H) (.cons (fun H => WeakH.refl _ H) (.cons (fun H => WeakH.nil H) (.nil))))) (fun H => hrd H) ?_
                    refine If.mk (fun _ => ?_) (fun h => absurd (by decide) h)
                    refine If.mk (fun _ => ?_) (fun h => absurd (by decide) h)
                    refine If.mk (fun _ => ?_) (fun h => absurd (by decide) h)
                    refine Ex.mk _ (jx_versions (r := version.toNat) (by omega) hv) ?_
                    refine Ex.mk _ rfl ?_
                    refine CallG.pure _ (c_refFence hvo hv0 (by omega) hB.1.1 tune) ?_
                    refine CallG.bool (c_same _ _ (by omega)) (fun _ => ?_) (fun x => absurd rfl x)
                    refine IfB.mk (fun e => by cases e) (fun _ => ?_)
                    refine CallG.bool (c_evenings hB.fit _ hlen hle) (fun _ => ?_) (fun x => absurd hE x)
                    refine CallG.bool (c_evening hB.fit _ hn1 hn2) (fun _ => ?_) (fun x => absurd hN x)
                    refine IfB.mk (fun e => by cases e) (fun _ => ?_)
                    by_cases hen : evs = []
                    · subst hen
                      refine Ex.mk _ rfl ?_
                      refine ex_app _ _ (app_ev1 (g := fun _ => none)) ?_
                      refine CallG.weak _ (.cons (fun H => WeakH.refl _ H) (.cons (wk_evs (l := [])) .nil)) (c_refRemains hB hev (by simp)) ?_
                      refine If.mk (fun h => absurd (List.length_eq_zero_iff.1 (by omega)) hne) (fun _ => ?_)
                      refine IfB.mk (fun e => by cases e) (fun _ => ?_)
                      refine If.mk (fun _ => ?_) (fun h => absurd (by decide) h)
                      refine CallG.pure _ (c_Bad hB hmem (by omega) hc1 hc2 tune) ?_
                      refine CallG.bool (c_same _ _ (by omega)) (fun _ => ?_) (fun x => absurd rfl x)
                      refine CallG.pure _ (known_call) ?_
                      exact ⟨.inl rfl, FinG.mk _ rfl rfl rfl⟩
                    · refine ex_app _ _ (app_evNil hen (by omega)) ?_
                      refine ex_app _ _ (app_evening (flat2_length (fun _ => rfl) _) (by omega) rfl) ?_
                      refine CallG.weak _ (.cons (fun H => WeakH.refl _ H) (.cons wk_evs .nil)) (c_refRemains hB hev (by rw [List.length_append]; simp; omega)) ?_
                      refine If.mk (fun h => absurd (List.length_eq_zero_iff.1 (by omega)) hne) (fun _ => ?_)
                      refine IfB.mk (fun e => by cases e) (fun _ => ?_)
                      refine If.mk (fun _ => ?_) (fun h => absurd (by decide) h)
                      refine CallG.pure _ (c_Bad hB hmem (by omega) hc1 hc2 tune) ?_
                      refine CallG.bool (c_same _ _ (by omega)) (fun _ => ?_) (fun x => absurd rfl x)
                      refine CallG.pure _ (known_call) ?_
                      exact ⟨.inl rfl, FinG.mk _ rfl rfl rfl⟩
                  | some l =>
                    have hX := (hR.yes l rfl).2.2.2.1
                    have hcl := cuesI_length l
                    refine CallG.pure _ (hcD) ?_
                    refine CallG.pure _ (c_Fence hsh.len hB h2 hv ht) ?_
                    refine CallG.pure _ (c_Never hsh.len hB hE hN ht hne) ?_
                    refine CallG.bool (c_book hsh.len) (fun _ => ?_) (fun x => absurd hB x)
                    refine CallG.bool (c_tune hB.fit _) (fun _ => ?_) (fun x => absurd ht x)
                    refine IfB.mk (fun e => by cases e) (fun _ => ?_)
                    refine CallG.bool (c_version hB.fit _) (fun _ => ?_) (fun x => absurd h2 x)
                    refine IfB.mk (fun e => by cases e) (fun _ => ?_)
                    refine Ex.mk _ (jx_versions (r := version.toNat) (by omega) hv) ?_
                    refine Ex.mk _ rfl ?_
                    refine CallG.weak _ (.cons (fun H => WeakH.refl _ H) (.cons (fun H => WeakH.refl _ H) (.cons (fun H => WeakH.refl _ H) (.cons (fun H => WeakH.nil H) (.nil))))) (fun H => hrd H) ?_
                    refine If.mk (fun _ => ?_) (fun h => absurd (by decide) h)
                    refine CallG.bool (c_same _ _ (by omega)) (fun _ => ?_) (fun x => absurd rfl x)
                    refine If.mk (fun _ => ?_) (fun h => absurd (by decide) h)
                    refine Ex.mk _ (jx_versions (r := version.toNat) (by omega) hv) ?_
                    refine Ex.mk _ rfl ?_
                    refine CallG.pure _ (c_refFence hvo hv0 (by omega) hB.1.1 tune) ?_
                    refine CallG.bool (c_same _ _ (by omega)) (fun _ => ?_) (fun x => absurd rfl x)
                    refine IfB.mk (fun e => by cases e) (fun _ => ?_)
                    refine CallG.bool (c_evenings hB.fit _ hlen hle) (fun _ => ?_) (fun x => absurd hE x)
                    refine CallG.bool (c_evening hB.fit _ hn1 hn2) (fun _ => ?_) (fun x => absurd hN x)
                    refine IfB.mk (fun e => by cases e) (fun _ => ?_)
                    by_cases hen : evs = []
                    · subst hen
                      refine Ex.mk _ rfl ?_
                      refine ex_app _ _ (app_ev1 (g := fun _ => none)) ?_
                      refine CallG.weak _ (.cons (fun H => WeakH.refl _ H) (.cons (wk_evs (l := [])) .nil)) (c_refRemains hB hev (by simp)) ?_
                      refine If.mk (fun h => absurd (List.length_eq_zero_iff.1 (by omega)) hne) (fun _ => ?_)
                      refine IfB.mk (fun e => by cases e) (fun _ => ?_)
                      refine If.mk (fun _ => ?_) (fun h => absurd (by decide) h)
                      refine CallG.pure _ (c_Bad hB hmem (by omega) hc1 hc2 tune) ?_
                      refine CallG.bool (c_same _ _ (by omega)) (fun _ => ?_) (fun x => absurd rfl x)
                      refine CallG.pure _ (known_call) ?_
                      exact ⟨.inl rfl, FinG.mk _ rfl rfl rfl⟩
                    · refine ex_app _ _ (app_evNil hen (by omega)) ?_
                      refine ex_app _ _ (app_evening (flat2_length (fun _ => rfl) _) (by omega) rfl) ?_
                      refine CallG.weak _ (.cons (fun H => WeakH.refl _ H) (.cons wk_evs .nil)) (c_refRemains hB hev (by rw [List.length_append]; simp; omega)) ?_
                      refine If.mk (fun h => absurd (List.length_eq_zero_iff.1 (by omega)) hne) (fun _ => ?_)
                      refine IfB.mk (fun e => by cases e) (fun _ => ?_)
                      refine If.mk (fun _ => ?_) (fun h => absurd (by decide) h)
                      refine CallG.pure _ (c_Bad hB hmem (by omega) hc1 hc2 tune) ?_
                      refine CallG.bool (c_same _ _ (by omega)) (fun _ => ?_) (fun x => absurd rfl x)
                      refine CallG.pure _ (known_call) ?_
                      exact ⟨.inl rfl, FinG.mk _ rfl rfl rfl⟩
                · refine CallG.pure _ (c_Danger_no hsh.len version tune (fun x => h2 x.2.1)) ?_
                  refine CallG.pure _ (c_Fence_no hsh.len version tune (fun x => h2 x.2.1)) ?_
                  refine CallG.pure _ (c_Never hsh.len hB hE hN ht hne) ?_
                  refine CallG.bool (c_book hsh.len) (fun _ => ?_) (fun x => absurd hB x)
                  refine CallG.bool (c_tune hB.fit _) (fun _ => ?_) (fun x => absurd ht x)
                  refine IfB.mk (fun e => by cases e) (fun _ => ?_)
                  refine CallG.bool (c_version hB.fit _) (fun x => absurd x h2) (fun _ => ?_)
                  refine IfB.mk (fun _ => ?_) (fun e => by cases e)
                  refine If.mk (fun _ => ?_) (fun h => absurd (by decide) h)
                  refine If.mk (fun _ => ?_) (fun h => absurd (by decide) h)
                  refine If.mk (fun _ => ?_) (fun h => absurd (by decide) h)
                  refine If.mk (fun _ => ?_) (fun h => absurd (by decide) h)
                  refine IfB.mk (fun e => by cases e) (fun _ => ?_)
                  refine CallG.bool (c_evenings hB.fit _ hlen hle) (fun _ => ?_) (fun x => absurd hE x)
                  refine CallG.bool (c_evening hB.fit _ hn1 hn2) (fun _ => ?_) (fun x => absurd hN x)
                  refine IfB.mk (fun e => by cases e) (fun _ => ?_)
                  by_cases hen : evs = []
                  · subst hen
                    refine Ex.mk _ rfl ?_
                    refine ex_app _ _ (app_ev1 (g := fun _ => none)) ?_
                    refine CallG.weak _ (.cons (fun H => WeakH.refl _ H) (.cons (wk_evs (l := [])) .nil)) (c_refRemains hB hev (by simp)) ?_
                    refine If.mk (fun h => absurd (List.length_eq_zero_iff.1 (by omega)) hne) (fun _ => ?_)
                    refine IfB.mk (fun e => by cases e) (fun _ => ?_)
                    refine If.mk (fun _ => ?_) (fun h => absurd (by decide) h)
                    refine CallG.pure _ (c_Bad hB hmem (by omega) hc1 hc2 tune) ?_
                    refine CallG.bool (c_same _ _ (by omega)) (fun _ => ?_) (fun x => absurd rfl x)
                    refine CallG.pure _ (known_call) ?_
                    exact ⟨.inl rfl, FinG.mk _ rfl rfl rfl⟩
                  · refine ex_app _ _ (app_evNil hen (by omega)) ?_
                    refine ex_app _ _ (app_evening (flat2_length (fun _ => rfl) _) (by omega) rfl) ?_
                    refine CallG.weak _ (.cons (fun H => WeakH.refl _ H) (.cons wk_evs .nil)) (c_refRemains hB hev (by rw [List.length_append]; simp; omega)) ?_
                    refine If.mk (fun h => absurd (List.length_eq_zero_iff.1 (by omega)) hne) (fun _ => ?_)
                    refine IfB.mk (fun e => by cases e) (fun _ => ?_)
                    refine If.mk (fun _ => ?_) (fun h => absurd (by decide) h)
                    refine CallG.pure _ (c_Bad hB hmem (by omega) hc1 hc2 tune) ?_
                    refine CallG.bool (c_same _ _ (by omega)) (fun _ => ?_) (fun x => absurd rfl x)
                    refine CallG.pure _ (known_call) ?_
                    exact ⟨.inl rfl, FinG.mk _ rfl rfl rfl⟩
            · by_cases h2 : inI version 0 (b.vs.length - 1)
              · have hi := h2
                unfold inI at hi
                obtain ⟨v, hv⟩ : ∃ v, b.vs[version.toNat]? = some v := ⟨_, List.getElem?_eq_getElem (by omega)⟩
                obtain ⟨hvo, hv0⟩ := (hB.2 v (List.mem_of_getElem? hv)).vers
                have hv4 := (hB.2 v (List.mem_of_getElem? hv)).2
                unfold inI at hv4
                obtain ⟨hf1, _, _⟩ := fence_props (v := v) (tune := tune) b.cues.toNat
                have hfl := incr_length hf1 (Nat.zero_le _)
                obtain ⟨o, hD, hcD⟩ := c_Danger hsh.len hB h2 hv ht
                obtain ⟨_, ⟨o', rfl, hR⟩, hrd⟩ := c_refDangerO hvo hv0 (by omega) hB.1.1 tune [] (by simp)
                obtain rfl := danger_same hvo hv0 hD hR
                cases o with
                | none =>
                  refine CallG.pure _ (hcD) ?_
                  refine CallG.pure _ (c_Fence hsh.len hB h2 hv ht) ?_
                  refine CallG.pure _ (c_Never_bad hsh.len hlen hle hn1 hn2 (fun x => hC ⟨x.2.1, x.2.2.1⟩)) ?_
                  refine CallG.bool (c_book hsh.len) (fun _ => ?_) (fun x => absurd hB x)
                  refine CallG.bool (c_tune hB.fit _) (fun _ => ?_) (fun x => absurd ht x)
                  refine IfB.mk (fun e => by cases e) (fun _ => ?_)
                  refine CallG.bool (c_version hB.fit _) (fun _ => ?_) (fun x => absurd h2 x)
                  refine IfB.mk (fun e => by cases e) (fun _ => ?_)
                  refine Ex.mk _ (jx_versions (r := version.toNat) (by omega) hv) ?_
                  refine Ex.mk _ rfl ?_
                  refine CallG.weak _ (.cons (fun H => WeakH.refl _ H) (.cons (fun H => WeakH.refl _ H) (.cons (fun H => WeakH.refl _ H) (.cons (fun H => WeakH.nil H) (.nil))))) (fun H => hrd H) ?_
                  refine If.mk (fun _ => ?_) (fun h => absurd (by decide) h)
                  refine If.mk (fun _ => ?_) (fun h => absurd (by decide) h)
                  refine If.mk (fun _ => ?_) (fun h => absurd (by decide) h)
                  refine Ex.mk _ (jx_versions (r := version.toNat) (by omega) hv) ?_
                  refine Ex.mk _ rfl ?_
                  refine CallG.pure _ (c_refFence hvo hv0 (by omega) hB.1.1 tune) ?_
                  refine CallG.bool (c_same _ _ (by omega)) (fun _ => ?_) (fun x => absurd rfl x)
                  refine IfB.mk (fun e => by cases e) (fun _ => ?_)
                  by_cases hE : EvsOk b evs
                  · refine CallG.bool (c_evenings hB.fit _ hlen hle) (fun _ => ?_) (fun x => absurd hE x)
                    refine CallG.bool (c_evening hB.fit _ hn1 hn2) (fun h => absurd ⟨hE, h⟩ hC) (fun _ => ?_)
                    refine IfB.mk (fun _ => ?_) (fun e => by cases e)
                    refine If.mk (fun _ => ?_) (fun h => absurd (by decide) h)
                    refine If.mk (fun _ => ?_) (fun h => absurd (by decide) h)
                    refine CallG.pure _ (known_call) ?_
                    exact ⟨.inl rfl, FinG.mk _ rfl rfl rfl⟩
                  · refine CallG.bool (c_evenings hB.fit _ hlen hle) (fun x => absurd x hE) (fun _ => ?_)
                    refine IfB.mk (fun _ => ?_) (fun e => by cases e)
                    refine If.mk (fun _ => ?_) (fun h => absurd (by decide) h)
                    refine If.mk (fun _ => ?_) (fun h => absurd (by decide) h)
                    refine CallG.pure _ (known_call) ?_
                    exact ⟨.inl rfl, FinG.mk _ rfl rfl rfl⟩
                | some l =>
                  have hX := (hR.yes l rfl).2.2.2.1
                  have hcl := cuesI_length l
                  refine CallG.pure _ (hcD) ?_
                  refine CallG.pure _ (c_Fence hsh.len hB h2 hv ht) ?_
                  refine CallG.pure _ (c_Never_bad hsh.len hlen hle hn1 hn2 (fun x => hC ⟨x.2.1, x.2.2.1⟩)) ?_
                  refine CallG.bool (c_book hsh.len) (fun _ => ?_) (fun x => absurd hB x)
                  refine CallG.bool (c_tune hB.fit _) (fun _ => ?_) (fun x => absurd ht x)
                  refine IfB.mk (fun e => by cases e) (fun _ => ?_)
                  refine CallG.bool (c_version hB.fit _) (fun _ => ?_) (fun x => absurd h2 x)
                  refine IfB.mk (fun e => by cases e) (fun _ => ?_)
                  refine Ex.mk _ (jx_versions (r := version.toNat) (by omega) hv) ?_
                  refine Ex.mk _ rfl ?_
                  refine CallG.weak _ (.cons (fun H => WeakH.refl _ H) (.cons (fun H => WeakH.refl _ H) (.cons (fun H => WeakH.refl _ H) (.cons (fun H => WeakH.nil H) (.nil))))) (fun H => hrd H) ?_
                  refine If.mk (fun _ => ?_) (fun h => absurd (by decide) h)
                  refine CallG.bool (c_same _ _ (by omega)) (fun _ => ?_) (fun x => absurd rfl x)
                  refine If.mk (fun _ => ?_) (fun h => absurd (by decide) h)
                  refine Ex.mk _ (jx_versions (r := version.toNat) (by omega) hv) ?_
                  refine Ex.mk _ rfl ?_
                  refine CallG.pure _ (c_refFence hvo hv0 (by omega) hB.1.1 tune) ?_
                  refine CallG.bool (c_same _ _ (by omega)) (fun _ => ?_) (fun x => absurd rfl x)
                  refine IfB.mk (fun e => by cases e) (fun _ => ?_)
                  by_cases hE : EvsOk b evs
                  · refine CallG.bool (c_evenings hB.fit _ hlen hle) (fun _ => ?_) (fun x => absurd hE x)
                    refine CallG.bool (c_evening hB.fit _ hn1 hn2) (fun h => absurd ⟨hE, h⟩ hC) (fun _ => ?_)
                    refine IfB.mk (fun _ => ?_) (fun e => by cases e)
                    refine If.mk (fun _ => ?_) (fun h => absurd (by decide) h)
                    refine If.mk (fun _ => ?_) (fun h => absurd (by decide) h)
                    refine CallG.pure _ (known_call) ?_
                    exact ⟨.inl rfl, FinG.mk _ rfl rfl rfl⟩
                  · refine CallG.bool (c_evenings hB.fit _ hlen hle) (fun x => absurd x hE) (fun _ => ?_)
                    refine IfB.mk (fun _ => ?_) (fun e => by cases e)
                    refine If.mk (fun _ => ?_) (fun h => absurd (by decide) h)
                    refine If.mk (fun _ => ?_) (fun h => absurd (by decide) h)
                    refine CallG.pure _ (known_call) ?_
                    exact ⟨.inl rfl, FinG.mk _ rfl rfl rfl⟩
              · refine CallG.pure _ (c_Danger_no hsh.len version tune (fun x => h2 x.2.1)) ?_
                refine CallG.pure _ (c_Fence_no hsh.len version tune (fun x => h2 x.2.1)) ?_
                refine CallG.pure _ (c_Never_bad hsh.len hlen hle hn1 hn2 (fun x => hC ⟨x.2.1, x.2.2.1⟩)) ?_
                refine CallG.bool (c_book hsh.len) (fun _ => ?_) (fun x => absurd hB x)
                refine CallG.bool (c_tune hB.fit _) (fun _ => ?_) (fun x => absurd ht x)
                refine IfB.mk (fun e => by cases e) (fun _ => ?_)
                refine CallG.bool (c_version hB.fit _) (fun x => absurd x h2) (fun _ => ?_)
                refine IfB.mk (fun _ => ?_) (fun e => by cases e)
                refine If.mk (fun _ => ?_) (fun h => absurd (by decide) h)
                refine If.mk (fun _ => ?_) (fun h => absurd (by decide) h)
                refine If.mk (fun _ => ?_) (fun h => absurd (by decide) h)
                refine If.mk (fun _ => ?_) (fun h => absurd (by decide) h)
                refine IfB.mk (fun e => by cases e) (fun _ => ?_)
                by_cases hE : EvsOk b evs
                · refine CallG.bool (c_evenings hB.fit _ hlen hle) (fun _ => ?_) (fun x => absurd hE x)
                  refine CallG.bool (c_evening hB.fit _ hn1 hn2) (fun h => absurd ⟨hE, h⟩ hC) (fun _ => ?_)
                  refine IfB.mk (fun _ => ?_) (fun e => by cases e)
                  refine If.mk (fun _ => ?_) (fun h => absurd (by decide) h)
                  refine If.mk (fun _ => ?_) (fun h => absurd (by decide) h)
                  refine CallG.pure _ (known_call) ?_
                  exact ⟨.inl rfl, FinG.mk _ rfl rfl rfl⟩
                · refine CallG.bool (c_evenings hB.fit _ hlen hle) (fun x => absurd x hE) (fun _ => ?_)
                  refine IfB.mk (fun _ => ?_) (fun e => by cases e)
                  refine If.mk (fun _ => ?_) (fun h => absurd (by decide) h)
                  refine If.mk (fun _ => ?_) (fun h => absurd (by decide) h)
                  refine CallG.pure _ (known_call) ?_
                  exact ⟨.inl rfl, FinG.mk _ rfl rfl rfl⟩
          · refine CallG.pure _ (c_Danger_no hsh.len version tune (fun x => hG ⟨x.1, x.2.2⟩)) ?_
            refine CallG.pure _ (c_Fence_no hsh.len version tune (fun x => hG ⟨x.1, x.2.2⟩)) ?_
            refine CallG.pure _ (c_Never_bad hsh.len hlen hle hn1 hn2 (fun x => hG ⟨x.1, x.2.2.2⟩)) ?_
            by_cases hB : BOk b
            · refine CallG.bool (c_book hsh.len) (fun _ => ?_) (fun x => absurd hB x)
              refine CallG.bool (c_tune hB.fit _) (fun x => absurd ⟨hB, x⟩ hG) (fun _ => ?_)
              refine IfB.mk (fun _ => ?_) (fun e => by cases e)
              refine If.mk (fun _ => ?_) (fun h => absurd (by decide) h)
              refine If.mk (fun _ => ?_) (fun h => absurd (by decide) h)
              refine If.mk (fun _ => ?_) (fun h => absurd (by decide) h)
              refine If.mk (fun _ => ?_) (fun h => absurd (by decide) h)
              refine If.mk (fun _ => ?_) (fun h => absurd (by decide) h)
              refine If.mk (fun _ => ?_) (fun h => absurd (by decide) h)
              refine CallG.pure _ (known_call) ?_
              exact ⟨.inl rfl, FinG.mk _ rfl rfl rfl⟩
            · refine CallG.bool (c_book hsh.len) (fun x => absurd x hB) (fun _ => ?_)
              refine IfB.mk (fun _ => ?_) (fun e => by cases e)
              refine If.mk (fun _ => ?_) (fun h => absurd (by decide) h)
              refine If.mk (fun _ => ?_) (fun h => absurd (by decide) h)
              refine If.mk (fun _ => ?_) (fun h => absurd (by decide) h)
              refine If.mk (fun _ => ?_) (fun h => absurd (by decide) h)
              refine If.mk (fun _ => ?_) (fun h => absurd (by decide) h)
              refine If.mk (fun _ => ?_) (fun h => absurd (by decide) h)
              refine CallG.pure _ (known_call) ?_
              exact ⟨.inl rfl, FinG.mk _ rfl rfl rfl⟩
        · refine IfB.mk (fun _ => ?_) (fun e => by cases e)
          refine CallG.pure _ (known_call) ?_
          exact ⟨.inl rfl, FinG.mk _ rfl rfl rfl⟩
      · refine IfB.mk (fun _ => ?_) (fun e => by cases e)
        refine CallG.pure _ (known_call) ?_
        exact ⟨.inl rfl, FinG.mk _ rfl rfl rfl⟩
    · refine IfB.mk (fun _ => ?_) (fun e => by cases e)
      refine CallG.pure _ (known_call) ?_
      exact ⟨.inl rfl, FinG.mk _ rfl rfl rfl⟩
end Go.Vm

/-
  CueNevers: the row and its card. (Own work; printed by gen_law.py.)
-/

namespace Go.Proofs.YtdhdaadoehbopaaGreatDoor
open Go.Vm Go.ChangeShapes Go.WideShapes Go.ChangeAt Go.RowKit

set_option maxHeartbeats 8000000 in
set_option maxRecDepth 100000 in
theorem cueNevers_lifted (os : Os) (started : os.Started) (H : Type) (enc : TypeId × Value → H) :
    ReturnsInHanded {} Tryz.checked os 20 .any (fun w args => (Rows.cueNeversSpec.pre enc Tryz.prog Tryz.f20 Rows.cueNeversRow.domain false w args ∧ laidMetH Tryz.prog Rows.cueNeversRow.laid w) ∧ sizedMet enc Tryz.prog Tryz.f20 (OpenSpec.ofChange Rows.cueNeversSpec) false w args)
      (Rows.cueNeversSpec.post enc Tryz.prog Tryz.f20 false true false false) := by
  refine returnsInHanded_of_change_and (C := Tryz.checked) (X := fun w _ => laidMetH Tryz.prog Rows.cueNeversRow.laid w) (fun _ _ _ hh h => h.of_heap hh) own started (by kernel_rfl) Tryz.func20
    (ChangeSpec.witness_shaped (enc := enc) (C := Tryz.checked) (os := os) (X := fun w _ => laidMetH Tryz.prog Rows.cueNeversRow.laid w) false (World.laidAll Tryz.prog os Rows.cueNeversRow.laid) #[.agg #[.int .i64 0, .int .i64 0, .slice none 0 0], .int .i64 0, .int .i64 0, .slice none 0 0, .agg #[.slice none 0 0, .slice none 0 0]] 8 (World.laidAll_os _ _ _)
      (World.shaped_of_ZipB (by kernel_rfl) (by kernel_rfl)) (by kernel_rfl) (by kernel_rfl) (by kernel_rfl)
      (by rw [MakeChecks.laidMetH_plain _ _ _ (by kernel_rfl)]; exact laidMet_laidAll _ (by kernel_rfl) (by kernel_rfl))) ?_
  intro W base args ds gs before hval0 hW _ _ _ _
  have hval : ∀ (j : Nat) t v, Tryz.f20.params[j]? = some t → args[j]? = some v → Value.okWide Tryz.prog W .any base t v := hval0
  have hW' := hW
  obtain ⟨p, q, hA0, hV, rfl, _, _⟩ := hW
  have hA : DataW.TrodAll enc Tryz.prog W 0 (fun _ => true) true Tryz.f20.params.toList args.toList ds p := hA0
  rw [Tryz.params20] at hA hval
  obtain ⟨v0, v1, v2, v3, v4, d0, d1, d2, d3, d4, p0, p1, p2, p3, p4, rfl, rfl, rfl, h0, h1, h2, h3, h4⟩ := trodAll_five hA
  obtain ⟨rfl, rfl⟩ := trodVars_none hV
  obtain ⟨x0, r0, _⟩ := arg_book (hval 0 24 v0 rfl rfl) h0
  obtain ⟨x1, r1, _⟩ := arg_int (hval 1 3 v1 rfl rfl) h1
  obtain ⟨x2, r2, _⟩ := arg_int (hval 2 3 v2 rfl rfl) h2
  obtain ⟨x3, r3, _⟩ := arg_evenings (hval 3 40 v3 rfl rfl) h3
  obtain ⟨x4, r4, _⟩ := arg_evening (hval 4 51 v4 rfl rfl) h4
  refine (law_calls (c_cueNevers x0 x1 x2 x3 x4) (by simp only [VRels, and_true]; exact ⟨r0, r1, r2, r3, r4⟩)).mono ?_
  rintro e W' ⟨rfl, hk⟩
  exact ⟨_, rfl, law_post laidOut (by kernel_rfl) (by kernel_rfl) (by kernel_rfl) hW' rfl rfl hk⟩

theorem cueNevers_named : Tryz.pinned.checked.prog.funcNamed Rows.cueNeversRow.func = some 20 := by kernel_rfl
theorem cueNevers_inst : Tryz.f20.isInstance Tryz.pinned.checked.prog Rows.cueNeversRow.origin Rows.cueNeversRow.targs := of_decide_eq_true (by kernel_rfl)
theorem cueNevers_wrap : Tryz.f20.isWrapper Tryz.pinned.checked.prog Rows.cueNeversRow.wrapper Rows.cueNeversRow.mainSum := by unfold Func.isWrapper; first | (rw [if_pos (by decide +kernel)]; kernel_rfl) | (rw [if_neg (by decide +kernel)]; exact ⟨rfl, rfl⟩)
set_option maxHeartbeats 8000000 in
theorem cueNevers_closed : joinedFacts Tryz.pinned.checked.prog 20 Tryz.f20 Rows.cueNeversSpec Rows.cueNeversRow = true := by
  unfold joinedFacts
  refine and_t (and_t (and_t (and_t (and_t (and_t (and_t (and_t (and_t (and_t (and_t (and_t (and_t (and_t (and_t (and_t (and_t (and_t (and_t (and_t (and_t (and_t (and_t (and_t (and_t (and_t (and_t (and_t (and_t (and_t (and_t ?_ ?_) ?_) ?_) ?_) ?_) ?_) ?_) ?_) ?_) ?_) ?_) ?_) ?_) ?_) ?_) ?_) ?_) ?_) ?_) ?_) ?_) ?_) ?_) ?_) ?_) ?_) ?_) ?_) ?_) ?_) ?_
  · as_aux_lemma => kernel_rfl
  · as_aux_lemma => kernel_rfl
  · as_aux_lemma => kernel_rfl
  · as_aux_lemma => kernel_rfl
  · as_aux_lemma => kernel_rfl
  · as_aux_lemma => kernel_rfl
  · as_aux_lemma => kernel_rfl
  · as_aux_lemma => kernel_rfl
  · as_aux_lemma => kernel_rfl
  · as_aux_lemma => kernel_rfl
  · as_aux_lemma => kernel_rfl
  · as_aux_lemma => kernel_rfl
  · as_aux_lemma => kernel_rfl
  · as_aux_lemma => kernel_rfl
  · as_aux_lemma => kernel_rfl
  · as_aux_lemma => kernel_rfl
  · as_aux_lemma => kernel_rfl
  · as_aux_lemma => kernel_rfl
  · as_aux_lemma => kernel_rfl
  · as_aux_lemma => kernel_rfl
  · as_aux_lemma => kernel_rfl
  · as_aux_lemma => kernel_rfl
  · as_aux_lemma => kernel_rfl
  · as_aux_lemma => kernel_rfl
  · as_aux_lemma => kernel_rfl
  · as_aux_lemma => kernel_rfl
  · as_aux_lemma => kernel_rfl
  · as_aux_lemma => kernel_rfl
  · as_aux_lemma => kernel_rfl
  · as_aux_lemma => kernel_rfl
  · as_aux_lemma => kernel_rfl
  · as_aux_lemma => kernel_rfl

theorem cueNevers_holds : Rows.CueNeversSaid :=
  OpenClaim.holds_of_wide 20 Tryz.f20 rfl rfl rfl rfl rfl rfl rfl ⟨rfl, rfl, rfl, rfl, rfl⟩ rfl rfl rfl rfl rfl cueNevers_named Tryz.func20 cueNevers_closed cueNevers_inst cueNevers_wrap
    (fun os started H enc _ => cueNevers_lifted os started H enc)

set_option maxHeartbeats 8000000 in
theorem cueNevers_card : Rows.CueNeversCardSaid :=
  Claim7.holds_tied_plain_at .later [] [.data, .data, .data, .data, .pinned] true (true, "d200c2f9484011b2fecf6d987098eee6f4d6857560912b686a09e1298a9b974d") true cueNevers_holds (fun _ h => by cases h) (by as_aux_lemma => kernel_rfl) (fun _ h => by cases h) cueNevers_row_tie rfl ⟨rfl, rfl⟩ (by as_aux_lemma => kernel_rfl) rfl
    (fun f fn hf hfn => by
      obtain rfl : f = 20 := Option.some.inj (cueNevers_named.symm.trans hf) |>.symm
      obtain rfl : fn = Tryz.f20 := (Option.some.inj (Tryz.func20.symm.trans hfn)).symm
      exact ⟨by as_aux_lemma => kernel_rfl, fun j t ht => by
        rw [Tryz.params20] at ht
        have hm : t ∈ [24, 3, 3, 40, 51] := by simpa using Array.mem_of_getElem? ht
        have hall : ([24, 3, 3, 40, 51].all fun u => !Tryz.prog.wantsStandIn u) = true := by kernel_rfl
        exact (show Tryz.prog.wantsStandIn t = false by simpa using List.all_eq_true.1 hall t hm)⟩)
    (by as_aux_lemma => kernel_rfl)
end Go.Proofs.YtdhdaadoehbopaaGreatDoor

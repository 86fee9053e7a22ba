/-
  The law CueApart of package kelirlaw04 returns true for every input, and each argument reads afterwards as it read before: the tied card. Conditions: what the row lists of package-level variables, tied to the text of the program.
-/
import Derived.Test.YtdhdaadoehbopaaGreatDoorCf
import Derived.Test.YtdhdaadoehbopaaGreatDoorCd
import Derived.Test.YtdhdaadoehbopaaGreatDoorCc
import Derived.Test.YtdhdaadoehbopaaGreatDoorVk
import Derived.Test.YtdhdaadoehbopaaGreatDoorVr
import Derived.Test.YtdhdaadoehbopaaGreatDoorRows
import Derived.Test.YtdhdaadoehbopaaGreatDoorTie
import Derived.Test.YtdhdaadoehbopaaGreatDoorCards
import Derived.SevenTiedAt

/-
  CueApart: its walk. (Own work.)
-/
namespace Go.Vm
open Go.Proofs

theorem lx_ints : ∀ {a b : List Nat}, Lx a b → ¬ LBefore (cuesI b) (cuesI a)
  | a :: l, b :: m, h, h' => by
    have h : a < b ∨ a = b ∧ Lx l m := h
    have h' : (b : Int) < a ∨ (b : Int) = a ∧ LBefore (cuesI m) (cuesI l) := h'
    rcases h with h | ⟨h, h2⟩
    · omega
    · rcases h' with h' | ⟨_, h'⟩
      · omega
      · exact lx_ints h2 h'
  | [], _, h, _ => h.elim
  | _ :: _, [], h, _ => h.elim

theorem le_ints {l u : List Nat} (h : LE l u) : ¬ (cuesI u).length < (cuesI l).length ∧ ((cuesI u).length = (cuesI l).length → ¬ LBefore (cuesI u) (cuesI l)) := by
  rw [cuesI_length, cuesI_length]
  rcases h with h | rfl
  · rcases h with h | ⟨h1, h2⟩
    · exact ⟨by omega, fun h3 => by omega⟩
    · exact ⟨by omega, fun _ => lx_ints h2⟩
  · exact ⟨by omega, fun _ => lbefore_irrefl _⟩


set_option maxHeartbeats 8000000 in
set_option maxRecDepth 100000 in
theorem c_cueApart (b : Book) (one other : Int) (cues : List Int) (H : List Blk) : ACall Tryz.prog 9 [eBook b, n' one, n' other, eInts cues] H (.ret (.lit (.bool true))) H := by
  refine fn_rule (m := false) (fn := Tryz.f9) (c := (Tryz.f9.body).getD .skip) mixed (by kernel_rfl) (by kernel_rfl) (of_decide_eq_true (by kernel_rfl)) ?_ ?_ ?_ H
  · exact ⟨under_eBook 0 _, trivial, trivial, under_eInts 0 _, trivial⟩
  · trivial
  · refine CallG.wbool (.cons (fun H => WeakH.refl _ H) (.cons wk_nilE .nil)) (c_right b []) (fun hR => ?_) (fun _ => ?_)
    · obtain ⟨⟨⟨hsh, _⟩, hB⟩, _⟩ := hR
      refine CallG.bool (c_version hB.fit _) (fun h2 => ?_) (fun _ => ?_)
      · refine CallG.bool (c_version hB.fit _) (fun h3 => ?_) (fun _ => ?_)
        · refine If.mk (fun h4 => ?_) (fun h4 => ?_)
          · refine IfB.mk (fun _ => ?_) (fun e => by cases e)
            refine CallG.pure _ (known_call) ?_
            exact ⟨.inl rfl, FinG.mk _ rfl rfl rfl⟩
          · refine CallG.bool (c_list hB.fit _ (by omega)) (fun hO => ?_) (fun _ => ?_)
            · refine IfB.mk (fun e => by cases e) (fun _ => ?_)
              have hi := h2
              have hj := h3
              unfold inI at hi hj
              obtain ⟨v, hv⟩ : ∃ v, b.vs[one.toNat]? = some v := ⟨_, List.getElem?_eq_getElem (by omega)⟩
              obtain ⟨w, hw⟩ : ∃ w, b.vs[other.toNat]? = some w := ⟨_, List.getElem?_eq_getElem (by omega)⟩
              obtain ⟨hvo, hv0⟩ := (hB.2 v (List.mem_of_getElem? hv)).vers
              obtain ⟨hwo, hw0⟩ := (hB.2 w (List.mem_of_getElem? hw)).vers
              have hv4 := (hB.2 v (List.mem_of_getElem? hv)).2
              have hw4 := (hB.2 w (List.mem_of_getElem? hw)).2
              have hbc := hB.1.1
              have hvn := hB.1.2.2
              unfold inI at hv4 hw4 hbc hvn
              obtain ⟨u, hu, hue⟩ := ints_cues (hO.cues (by omega)).1
              by_cases hij : one = other
              · subst hij
                obtain rfl : v = w := Option.some.inj (hv.symm.trans hw)
                have htell := fun H => c_tell_same hsh.len hB h2 H
                have hback := htell
                have hpq : plays v 0 cues = plays v 0 cues := rfl
                refine CallG.pure _ (htell) ?_
                refine CallG.pure _ (hback) ?_
                refine CallG.pure _ (c_plays_ok hsh.len hB h2.1 hv hO) ?_
                refine CallG.pure _ (c_plays_ok hsh.len hB h3.1 hw hO) ?_
                refine If.mk (fun _ => ?_) (fun h => absurd (by decide) h)
                refine CallG.wbool (.cons (fun H => wk_nil H) (.cons (fun H => wk_nil H) .nil)) (c_same [] [] (by simp)) (fun _ => ?_) (fun h => absurd rfl h)
                refine If.mk (fun _ => ?_) (fun h => absurd (by decide) h)
                refine If.mk (fun _ => ?_) (fun h => absurd (by decide) h)
                refine If.mk (fun h => absurd h (by decide)) (fun _ => ?_)
                refine If.mk (fun _ => ?_) (fun h => absurd (by decide) h)
                refine IfB.mk (fun e => by cases e) (fun _ => ?_)
                refine CallG.bool (c_same _ _ (by rw [plays_length]; omega)) (fun _ => ?_) (fun h => absurd hpq h)
                refine If.mk (fun h => absurd h (by decide)) (fun _ => ?_)
                refine IfB.mk (fun _ => ?_) (fun e => by cases e)
                refine CallG.pure _ (known_call) ?_
                exact ⟨.inl rfl, FinG.mk _ rfl rfl rfl⟩
              · have hvs : ∀ v ∈ b.vs, VersOk v b.cues.toNat := fun v hv => (hB.2 v hv).vers.1
                have hvs0 : ∀ v ∈ b.vs, 0 < v.length := fun v hv => (hB.2 v hv).vers.2
                obtain ⟨o, hF, htell⟩ := c_tell hsh.len hB h2 h3 hij
                obtain ⟨o', hF', hback⟩ := c_tell hsh.len hB h3 h2 (fun h => hij h.symm)
                have hbeg : begP other one = begP one other := by
                  have e : ∀ n, bgI [other, one] n = bgI [one, other] n := fun n => by
                    unfold bgI
                    simp [or_comm]
                  unfold begP
                  simp only [e]
                rw [hbeg] at hF'
                obtain rfl := hF.unique hF'
                have hT := hF.told hvs hvs0 (by omega) h2 h3 hij hv hw
                cases o with
                | none =>
                  have hpq : plays v 0 cues = plays w 0 cues := by
                    rw [← hue]
                    exact hT.no rfl u hu
                  refine CallG.pure _ (htell) ?_
                  refine CallG.pure _ (hback) ?_
                  refine CallG.pure _ (c_plays_ok hsh.len hB h2.1 hv hO) ?_
                  refine CallG.pure _ (c_plays_ok hsh.len hB h3.1 hw hO) ?_
                  refine If.mk (fun _ => ?_) (fun h => absurd (by decide) h)
                  refine CallG.wbool (.cons (fun H => wk_nil H) (.cons (fun H => wk_nil H) .nil)) (c_same [] [] (by simp)) (fun _ => ?_) (fun h => absurd rfl h)
                  refine If.mk (fun _ => ?_) (fun h => absurd (by decide) h)
                  refine If.mk (fun _ => ?_) (fun h => absurd (by decide) h)
                  refine If.mk (fun h => absurd h (by decide)) (fun _ => ?_)
                  refine If.mk (fun _ => ?_) (fun h => absurd (by decide) h)
                  refine IfB.mk (fun e => by cases e) (fun _ => ?_)
                  refine CallG.bool (c_same _ _ (by rw [plays_length]; omega)) (fun _ => ?_) (fun h => absurd hpq h)
                  refine If.mk (fun h => absurd h (by decide)) (fun _ => ?_)
                  refine IfB.mk (fun _ => ?_) (fun e => by cases e)
                  refine CallG.pure _ (known_call) ?_
                  exact ⟨.inl rfl, FinG.mk _ rfl rfl rfl⟩
                | some l =>
                  have hl7 := hT.short hvo hwo hv0 hw0 (by omega) (by omega)
                  obtain ⟨l0, c, e, hl1, hl2⟩ := hT.last
                  obtain ⟨hlo, _, hleast⟩ := hT.yes l rfl
                  have hll := cuesI_length l
                  have hlp : 1 ≤ l.length := by rw [e]; simp
                  have hX : LList b (cuesI l) := by
                    refine ⟨by omega, fun x hx => ?_⟩
                    have := cuesI_ok hlo x hx
                    unfold inI; omega
                  obtain ⟨P, hP⟩ : ∃ P, P = plays v 0 (cuesI l0) := ⟨_, rfl⟩
                  obtain ⟨tv', htv⟩ : ∃ t, t = (mv v (after v 0 (cuesI l0)) c).2 := ⟨_, rfl⟩
                  obtain ⟨tw, htw⟩ : ∃ t, t = (mv w (after w 0 (cuesI l0)) c).2 := ⟨_, rfl⟩
                  have hne : ¬ tv' = tw := by rw [htv, htw]; exact hl2
                  have hpv := fun H => c_plays_ok hsh.len hB h2.1 hv hX H
                  have hpw := fun H => c_plays_ok hsh.len hB h3.1 hw hX H
                  have ev : plays v 0 (cuesI l) = P ++ [tv'] := by rw [e, cuesI_snoc, plays_snoc, Int.toNat_natCast, hP, htv]
                  have ew : plays w 0 (cuesI l) = P ++ [tw] := by rw [e, cuesI_snoc, plays_snoc, Int.toNat_natCast, hP, htw, hl1]
                  rw [ev] at hpv
                  rw [ew] at hpw
                  have hPl : P.length = l0.length := by rw [hP, plays_length, cuesI_length]
                  have hl0 : l.length = l0.length + 1 := by rw [e]; simp
                  have hxv : (P ++ [tv'])[P.length]? = some tv' := by simp
                  have hxw : (P ++ [tw])[P.length]? = some tw := by simp
                  have hlv : (P ++ [tv']).length = P.length + 1 := by simp
                  have hlw : (P ++ [tw]).length = P.length + 1 := by simp
                  refine CallG.pure _ (htell) ?_
                  refine CallG.pure _ (hback) ?_
                  refine CallG.pure _ (c_plays_ok hsh.len hB h2.1 hv hO) ?_
                  refine CallG.pure _ (c_plays_ok hsh.len hB h3.1 hw hO) ?_
                  refine If.mk (fun _ => ?_) (fun h => absurd (by decide) h)
                  refine CallG.bool (c_same _ _ (by omega)) (fun _ => ?_) (fun h => absurd rfl h)
                  refine If.mk (fun _ => ?_) (fun h => absurd (by decide) h)
                  refine If.mk (fun _ => ?_) (fun h => absurd (by decide) h)
                  refine If.mk (fun _ => ?_) (fun h => absurd (by decide) h)
                  refine IfB.mk (fun e => by cases e) (fun _ => ?_)
                  refine CallG.bool (c_same _ _ (by rw [plays_length]; omega)) (fun _ => ?_) (fun hpq => ?_)
                  · refine If.mk (fun _ => ?_) (fun h => absurd (by decide) h)
                    refine IfB.mk (fun e => by cases e) (fun _ => ?_)
                    refine If.mk (fun h => absurd h (by omega)) (fun _ => ?_)
                    refine If.mk (fun h => absurd h (by omega)) (fun _ => ?_)
                    refine CallG.bool (c_cues hB.fit _ (by omega)) (fun _ => ?_) (fun h => absurd hX.2 h)
                    refine IfB.mk (fun e => by cases e) (fun _ => ?_)
                    refine CallG.pure _ (hpv) ?_
                    refine CallG.pure _ (hpw) ?_
                    refine Side.mk (fits64 (by omega)) ?_
                    refine If.mk (fun _ => ?_) (fun h => absurd (by decide) h)
                    refine If.mk (fun _ => ?_) (fun h => absurd (by decide) h)
                    refine If.mk (fun _ => ?_) (fun h => absurd (by omega) h)
                    refine If.mk (fun _ => ?_) (fun h => absurd (by omega) h)
                    refine Ex.mk _ (jx_ints (r := P.length) (by omega) hxv) ?_
                    refine Ex.mk _ rfl ?_
                    refine Ex.mk _ (jx_ints (r := P.length) (by omega) hxw) ?_
                    refine Ex.mk _ rfl ?_
                    refine If.mk (fun h => absurd h hne) (fun _ => ?_)
                    refine Ex.mk _ (aop_slice (k := P.length) rfl rfl rfl (by omega) (by simp)) ?_
                    refine Ex.mk _ (aop_slice (k := P.length) rfl rfl rfl (by omega) (by simp)) ?_
                    refine CallG.bool (c_same _ _ (by simp; omega)) (fun _ => ?_) (fun h => absurd (by simp) h)
                    refine CallG.pure _ (known_call) ?_
                    exact ⟨.inl rfl, FinG.mk _ rfl rfl rfl⟩
                  · rw [← hue] at hpq
                    obtain ⟨k1, k2⟩ := le_ints (hleast u hu hpq)
                    rw [hue] at k1 k2
                    refine If.mk (fun _ => ?_) (fun h => absurd (by decide) h)
                    refine IfB.mk (fun e => by cases e) (fun _ => ?_)
                    refine If.mk (fun h => absurd h (by omega)) (fun _ => ?_)
                    refine If.mk (fun h => absurd h (by omega)) (fun _ => ?_)
                    refine CallG.bool (c_cues hB.fit _ (by omega)) (fun _ => ?_) (fun h => absurd hX.2 h)
                    refine If.mk (fun h => absurd h (by omega)) (fun _ => ?_)
                    refine If.mk (fun h5 => ?_) (fun h5 => ?_)
                    · refine CallG.bool (c_before _ _ (by omega)) (fun h => absurd h (k2 (by omega))) (fun _ => ?_)
                      refine IfB.mk (fun e => by cases e) (fun _ => ?_)
                      refine CallG.pure _ (hpv) ?_
                      refine CallG.pure _ (hpw) ?_
                      refine Side.mk (fits64 (by omega)) ?_
                      refine If.mk (fun _ => ?_) (fun h => absurd (by decide) h)
                      refine If.mk (fun _ => ?_) (fun h => absurd (by decide) h)
                      refine If.mk (fun _ => ?_) (fun h => absurd (by omega) h)
                      refine If.mk (fun _ => ?_) (fun h => absurd (by omega) h)
                      refine Ex.mk _ (jx_ints (r := P.length) (by omega) hxv) ?_
                      refine Ex.mk _ rfl ?_
                      refine Ex.mk _ (jx_ints (r := P.length) (by omega) hxw) ?_
                      refine Ex.mk _ rfl ?_
                      refine If.mk (fun h => absurd h hne) (fun _ => ?_)
                      refine Ex.mk _ (aop_slice (k := P.length) rfl rfl rfl (by omega) (by simp)) ?_
                      refine Ex.mk _ (aop_slice (k := P.length) rfl rfl rfl (by omega) (by simp)) ?_
                      refine CallG.bool (c_same _ _ (by simp; omega)) (fun _ => ?_) (fun h => absurd (by simp) h)
                      refine CallG.pure _ (known_call) ?_
                      exact ⟨.inl rfl, FinG.mk _ rfl rfl rfl⟩
                    · refine IfB.mk (fun e => by cases e) (fun _ => ?_)
                      refine CallG.pure _ (hpv) ?_
                      refine CallG.pure _ (hpw) ?_
                      refine Side.mk (fits64 (by omega)) ?_
                      refine If.mk (fun _ => ?_) (fun h => absurd (by decide) h)
                      refine If.mk (fun _ => ?_) (fun h => absurd (by decide) h)
                      refine If.mk (fun _ => ?_) (fun h => absurd (by omega) h)
                      refine If.mk (fun _ => ?_) (fun h => absurd (by omega) h)
                      refine Ex.mk _ (jx_ints (r := P.length) (by omega) hxv) ?_
                      refine Ex.mk _ rfl ?_
                      refine Ex.mk _ (jx_ints (r := P.length) (by omega) hxw) ?_
                      refine Ex.mk _ rfl ?_
                      refine If.mk (fun h => absurd h hne) (fun _ => ?_)
                      refine Ex.mk _ (aop_slice (k := P.length) rfl rfl rfl (by omega) (by simp)) ?_
                      refine Ex.mk _ (aop_slice (k := P.length) rfl rfl rfl (by omega) (by simp)) ?_
                      refine CallG.bool (c_same _ _ (by simp; omega)) (fun _ => ?_) (fun h => absurd (by simp) h)
                      refine CallG.pure _ (known_call) ?_
                      exact ⟨.inl rfl, FinG.mk _ rfl rfl rfl⟩
            · refine IfB.mk (fun _ => ?_) (fun e => by cases e)
              refine CallG.pure _ (known_call) ?_
              exact ⟨.inl rfl, FinG.mk _ rfl rfl rfl⟩
        · refine IfB.mk (fun _ => ?_) (fun e => by cases e)
          refine CallG.pure _ (known_call) ?_
          exact ⟨.inl rfl, FinG.mk _ rfl rfl rfl⟩
      · refine IfB.mk (fun _ => ?_) (fun e => by cases e)
        refine CallG.pure _ (known_call) ?_
        exact ⟨.inl rfl, FinG.mk _ rfl rfl rfl⟩
    · refine IfB.mk (fun _ => ?_) (fun e => by cases e)
      refine CallG.pure _ (known_call) ?_
      exact ⟨.inl rfl, FinG.mk _ rfl rfl rfl⟩
end Go.Vm

/-
  CueApart: the row and its card. (Own work; printed by gen_law.py.)
-/

namespace Go.Proofs.YtdhdaadoehbopaaGreatDoor
open Go.Vm Go.ChangeShapes Go.WideShapes Go.ChangeAt Go.RowKit

set_option maxHeartbeats 8000000 in
set_option maxRecDepth 100000 in
theorem cueApart_lifted (os : Os) (started : os.Started) (H : Type) (enc : TypeId × Value → H) :
    ReturnsInHanded {} Tryz.checked os 9 .any (fun w args => (Rows.cueApartSpec.pre enc Tryz.prog Tryz.f9 Rows.cueApartRow.domain false w args ∧ laidMetH Tryz.prog Rows.cueApartRow.laid w) ∧ sizedMet enc Tryz.prog Tryz.f9 (OpenSpec.ofChange Rows.cueApartSpec) false w args)
      (Rows.cueApartSpec.post enc Tryz.prog Tryz.f9 false true false false) := by
  refine returnsInHanded_of_change_and (C := Tryz.checked) (X := fun w _ => laidMetH Tryz.prog Rows.cueApartRow.laid w) (fun _ _ _ hh h => h.of_heap hh) own started (by kernel_rfl) Tryz.func9
    (ChangeSpec.witness_shaped (enc := enc) (C := Tryz.checked) (os := os) (X := fun w _ => laidMetH Tryz.prog Rows.cueApartRow.laid w) false (World.laidAll Tryz.prog os Rows.cueApartRow.laid) #[.agg #[.int .i64 0, .int .i64 0, .slice none 0 0], .int .i64 0, .int .i64 0, .slice none 0 0] 8 (World.laidAll_os _ _ _)
      (World.shaped_of_ZipB (by kernel_rfl) (by kernel_rfl)) (by kernel_rfl) (by kernel_rfl) (by kernel_rfl)
      (by rw [MakeChecks.laidMetH_plain _ _ _ (by kernel_rfl)]; exact laidMet_laidAll _ (by kernel_rfl) (by kernel_rfl))) ?_
  intro W base args ds gs before hval0 hW _ _ _ _
  have hval : ∀ (j : Nat) t v, Tryz.f9.params[j]? = some t → args[j]? = some v → Value.okWide Tryz.prog W .any base t v := hval0
  have hW' := hW
  obtain ⟨p, q, hA0, hV, rfl, _, _⟩ := hW
  have hA : DataW.TrodAll enc Tryz.prog W 0 (fun _ => true) true Tryz.f9.params.toList args.toList ds p := hA0
  rw [Tryz.params9] at hA hval
  obtain ⟨v0, v1, v2, v3, d0, d1, d2, d3, p0, p1, p2, p3, rfl, rfl, rfl, h0, h1, h2, h3⟩ := trodAll_four hA
  obtain ⟨rfl, rfl⟩ := trodVars_none hV
  obtain ⟨x0, r0, _⟩ := arg_book (hval 0 24 v0 rfl rfl) h0
  obtain ⟨x1, r1, _⟩ := arg_int (hval 1 3 v1 rfl rfl) h1
  obtain ⟨x2, r2, _⟩ := arg_int (hval 2 3 v2 rfl rfl) h2
  obtain ⟨x3, r3, _⟩ := arg_ints (hval 3 25 v3 rfl rfl) h3
  refine (law_calls (c_cueApart x0 x1 x2 x3) (by simp only [VRels, and_true]; exact ⟨r0, r1, r2, r3⟩)).mono ?_
  rintro e W' ⟨rfl, hk⟩
  exact ⟨_, rfl, law_post laidOut (by kernel_rfl) (by kernel_rfl) (by kernel_rfl) hW' rfl rfl hk⟩

theorem cueApart_named : Tryz.pinned.checked.prog.funcNamed Rows.cueApartRow.func = some 9 := by kernel_rfl
theorem cueApart_inst : Tryz.f9.isInstance Tryz.pinned.checked.prog Rows.cueApartRow.origin Rows.cueApartRow.targs := of_decide_eq_true (by kernel_rfl)
theorem cueApart_wrap : Tryz.f9.isWrapper Tryz.pinned.checked.prog Rows.cueApartRow.wrapper Rows.cueApartRow.mainSum := by unfold Func.isWrapper; first | (rw [if_pos (by decide +kernel)]; kernel_rfl) | (rw [if_neg (by decide +kernel)]; exact ⟨rfl, rfl⟩)
set_option maxHeartbeats 8000000 in
theorem cueApart_closed : joinedFacts Tryz.pinned.checked.prog 9 Tryz.f9 Rows.cueApartSpec Rows.cueApartRow = true := by
  unfold joinedFacts
  refine and_t (and_t (and_t (and_t (and_t (and_t (and_t (and_t (and_t (and_t (and_t (and_t (and_t (and_t (and_t (and_t (and_t (and_t (and_t (and_t (and_t (and_t (and_t (and_t (and_t (and_t (and_t (and_t (and_t (and_t (and_t ?_ ?_) ?_) ?_) ?_) ?_) ?_) ?_) ?_) ?_) ?_) ?_) ?_) ?_) ?_) ?_) ?_) ?_) ?_) ?_) ?_) ?_) ?_) ?_) ?_) ?_) ?_) ?_) ?_) ?_) ?_) ?_
  · as_aux_lemma => kernel_rfl
  · as_aux_lemma => kernel_rfl
  · as_aux_lemma => kernel_rfl
  · as_aux_lemma => kernel_rfl
  · as_aux_lemma => kernel_rfl
  · as_aux_lemma => kernel_rfl
  · as_aux_lemma => kernel_rfl
  · as_aux_lemma => kernel_rfl
  · as_aux_lemma => kernel_rfl
  · as_aux_lemma => kernel_rfl
  · as_aux_lemma => kernel_rfl
  · as_aux_lemma => kernel_rfl
  · as_aux_lemma => kernel_rfl
  · as_aux_lemma => kernel_rfl
  · as_aux_lemma => kernel_rfl
  · as_aux_lemma => kernel_rfl
  · as_aux_lemma => kernel_rfl
  · as_aux_lemma => kernel_rfl
  · as_aux_lemma => kernel_rfl
  · as_aux_lemma => kernel_rfl
  · as_aux_lemma => kernel_rfl
  · as_aux_lemma => kernel_rfl
  · as_aux_lemma => kernel_rfl
  · as_aux_lemma => kernel_rfl
  · as_aux_lemma => kernel_rfl
  · as_aux_lemma => kernel_rfl
  · as_aux_lemma => kernel_rfl
  · as_aux_lemma => kernel_rfl
  · as_aux_lemma => kernel_rfl
  · as_aux_lemma => kernel_rfl
  · as_aux_lemma => kernel_rfl
  · as_aux_lemma => kernel_rfl

theorem cueApart_holds : Rows.CueApartSaid :=
  OpenClaim.holds_of_wide 9 Tryz.f9 rfl rfl rfl rfl rfl rfl rfl ⟨rfl, rfl, rfl, rfl, rfl⟩ rfl rfl rfl rfl rfl cueApart_named Tryz.func9 cueApart_closed cueApart_inst cueApart_wrap
    (fun os started H enc _ => cueApart_lifted os started H enc)

set_option maxHeartbeats 8000000 in
theorem cueApart_card : Rows.CueApartCardSaid :=
  Claim7.holds_tied_plain_at .later [] [.data, .data, .data, .data, .pinned] true (true, "d200c2f9484011b2fecf6d987098eee6f4d6857560912b686a09e1298a9b974d") true cueApart_holds (fun _ h => by cases h) (by as_aux_lemma => kernel_rfl) (fun _ h => by cases h) cueApart_row_tie rfl ⟨rfl, rfl⟩ (by as_aux_lemma => kernel_rfl) rfl
    (fun f fn hf hfn => by
      obtain rfl : f = 9 := Option.some.inj (cueApart_named.symm.trans hf) |>.symm
      obtain rfl : fn = Tryz.f9 := (Option.some.inj (Tryz.func9.symm.trans hfn)).symm
      exact ⟨by as_aux_lemma => kernel_rfl, fun j t ht => by
        rw [Tryz.params9] at ht
        have hm : t ∈ [24, 3, 3, 25] := by simpa using Array.mem_of_getElem? ht
        have hall : ([24, 3, 3, 25].all fun u => !Tryz.prog.wantsStandIn u) = true := by kernel_rfl
        exact (show Tryz.prog.wantsStandIn t = false by simpa using List.all_eq_true.1 hall t hm)⟩)
    (by as_aux_lemma => kernel_rfl)
end Go.Proofs.YtdhdaadoehbopaaGreatDoor

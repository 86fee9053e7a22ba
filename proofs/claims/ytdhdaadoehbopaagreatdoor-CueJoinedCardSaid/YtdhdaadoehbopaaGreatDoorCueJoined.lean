/-
  The law CueJoined of package kelirlaw04 returns true for every input, and each argument reads afterwards as it read before: the tied card. Conditions: what the row lists of package-level variables, tied to the text of the program.
-/
import Derived.Test.YtdhdaadoehbopaaGreatDoorCx
import Derived.Test.YtdhdaadoehbopaaGreatDoorCueJoins
import Derived.Test.YtdhdaadoehbopaaGreatDoorCo
import Derived.Test.YtdhdaadoehbopaaGreatDoorCb
import Derived.Test.YtdhdaadoehbopaaGreatDoorCh
import Derived.Test.YtdhdaadoehbopaaGreatDoorVr
import Derived.Test.YtdhdaadoehbopaaGreatDoorRows
import Derived.Test.YtdhdaadoehbopaaGreatDoorTie
import Derived.Test.YtdhdaadoehbopaaGreatDoorCards
import Derived.SevenTiedAt

namespace Go.Vm
open Go.Proofs
theorem sameT_iff {vs : List Vers} {K : Nat} (hv : ∀ v ∈ vs, VersOk v K) (hv0 : ∀ v ∈ vs, 0 < v.length) {L : List Int} (hL : LeftOk vs L) {u : List Nat} (hu : OkL K u) : sameT vs K L u (L.length - 1) = true ↔ specJ vs K L u := by
 have key : ∀ i, i < L.length → 1 ≤ i → (tgD vs K L u i = [] ↔ dT (vAt vs (lAt L 0).toNat) (vAt vs (lAt L i).toNat) K (aftN vs (lAt L 0) u) (aftN vs (lAt L i) u) = []) := fun i hi h1 => by
  have hat : ∀ n ∈ L, VersOk (vAt vs n.toNat) K ∧ aftN vs n u < (vAt vs n.toNat).length := fun n hn => by
   have hm := hL.mem n hn
   have hvm := vAt_in (vs := vs) (a := n.toNat) (by omega)
   exact ⟨hv _ hvm, after_lt (hv _ hvm) (cuesI_ok hu) (hv0 _ hvm)⟩
  obtain ⟨g1, g2⟩ := hat _ (lAt_mem (L := L) (i := 0) (by omega))
  obtain ⟨g3, g4⟩ := hat _ (lAt_mem (L := L) (i := i) hi)
  exact dT_begun g1 g3 g2 g4
 unfold sameT specJ
 rw [decide_eq_true_iff]
 constructor
 ·intro h i hi h1
  obtain ⟨j, rfl⟩ : ∃ j, i = j + 1 := ⟨i - 1, by omega⟩
  exact (key _ hi h1).1 (h j (by omega))
 ·intro h i hi
  exact (key (i + 1) (by omega) (by omega)).2 (h (i + 1) (by omega) (by omega))
set_option maxHeartbeats 8000000 in
set_option maxRecDepth 100000 in
theorem c_cueJoined (b : Book) (evs : List Evening) (cues : List Int) (H : List Blk) : ACall Tryz.prog 15 [eBook b, eEvenings evs, eInts cues] H (.ret (.lit (.bool true))) H := by
 refine fn_rule (m := false) (fn := Tryz.f15) (c := (Tryz.f15.body).getD .skip) mixed (by kernel_rfl) (by kernel_rfl) (of_decide_eq_true (by kernel_rfl)) ?_ ?_ ?_ H
 ·exact ⟨under_eBook 0 _, under_eEvenings 0 _, under_eInts 0 _, trivial⟩
 ·trivial
 ·refine CallG.bool (c_right b evs) (fun hR => ?_) (fun _ => ?_)
  ·obtain ⟨⟨⟨hsh, _⟩, hB⟩, hE⟩ := hR
   refine If.mk (fun h4 => ?_) (fun h4 => ?_)
   ·refine ifY ?_
    refine CallG.pure _ (known_call) ?_
    exact ⟨.inl rfl, FinG.mk _ rfl rfl rfl⟩
   ·refine CallG.bool (c_list hB.fit _ (by omega)) (fun hO => ?_) (fun _ => ?_)
    ·refine ifN ?_
     have hbc := hB.1.1
     have hvn := hB.1.2.2
     unfold inI at hbc hvn
     have hRl := remL_length b.vs evs b.vs.length
     have hVL := remL_versL b evs
     have hv : ∀ v ∈ b.vs, VersOk v b.cues.toNat := fun v hv => (hB.2 v hv).vers.1
     have hv0 : ∀ v ∈ b.vs, 0 < v.length := fun v hv => (hB.2 v hv).vers.2
     refine CallG.pure _ (c_Remains_ok hsh.len hB hE) ?_
     by_cases hne : remL b.vs evs b.vs.length = []
     ·refine CallG.pure _ (c_Join_none hsh.len hB hE hne) ?_
      refine If.mk (fun _ => ?_) (fun h => absurd (by decide) h)
      refine If.mk (fun h => absurd h (by omega)) (fun _ => ?_)
      refine CallG.bool (c_versions hB.fit _ (by omega)) (fun _ => ?_) (fun x => absurd hVL x)
      rw [hne]
      refine If.mk (fun _ => ?_) (fun h => absurd (by decide) h)
      refine If.mk (fun _ => ?_) (fun h => absurd (by decide) h)
      refine ifN ?_
      refine If.mk (fun _ => ?_) (fun h => absurd (by decide) h)
      refine ifY ?_
      refine CallG.pure _ (known_call) ?_
      exact ⟨.inl rfl, FinG.mk _ rfl rfl rfl⟩
     ·obtain ⟨o, hF, hc⟩ := c_Join hsh.len hB hE hne
      have hL := remL_left (b := b) (by omega) evs
      have hj : ∀ l, o = some l → l.length < 256 := fun l h => by
       subst h
       exact join_short hv hv0 (fun v hv => by have := (hB.2 v hv).2; unfold inI at this; omega) hL hF
      obtain ⟨u, hu, hue⟩ := ints_cues (hO.cues (by omega)).1
      have hul := cuesI_length u
      rw [hue] at hul
      have hdn : ∀ l, OkL b.cues.toNat l → (doneJ b.vs b.cues.toNat (runB (nextJ b.vs) (jRun b.vs (remL b.vs evs b.vs.length) []) l) ↔ sameT b.vs b.cues.toNat (remL b.vs evs b.vs.length) l ((remL b.vs evs b.vs.length).length - 1) = true) := fun l hl => by
       rw [jRun_pos hv hv0 hL l hl, sameT_iff hv hv0 hL hl]
       exact doneJ_iff hv hv0 (by omega) hL hl
      have htg := fun H => c_together hB hL hne hu (by omega) H
      rw [hue] at htg
      cases o with
      | none =>
       have hno : sameT b.vs b.cues.toNat (remL b.vs evs b.vs.length) u ((remL b.vs evs b.vs.length).length - 1) = false := by
        have := fun h => hF.no rfl u hu ((hdn u hu).2 h)
        simpa using this
       rw [hno] at htg
       refine CallG.pure _ (hc) ?_
       refine If.mk (fun _ => ?_) (fun h => absurd (by decide) h)
       refine If.mk (fun h => absurd h (by omega)) (fun _ => ?_)
       refine CallG.bool (c_versions hB.fit _ (by omega)) (fun _ => ?_) (fun x => absurd hVL x)
       generalize remL b.vs evs b.vs.length = L at *
       refine If.mk (fun h => absurd h (by decide)) (fun _ => ?_)
       refine If.mk (fun h => absurd (List.length_eq_zero_iff.1 (by omega)) hne) (fun _ => ?_)
       refine ifN ?_
       refine If.mk (fun h => absurd h (by decide)) (fun _ => ?_)
       refine ifN ?_
       refine CallG.pure _ (htg) ?_
       refine If.mk (fun h => absurd h (by decide)) (fun _ => ?_)
       refine If.mk (fun _ => ?_) (fun h => absurd (by decide) h)
       refine ifN ?_
       refine If.mk (fun h => absurd h (by decide)) (fun _ => ?_)
       refine ifY ?_
       refine CallG.pure _ (known_call) ?_
       exact ⟨.inl rfl, FinG.mk _ rfl rfl rfl⟩
      | some m =>
       have hml := hj m rfl
       have hcm := cuesI_length m
       obtain ⟨hmo, hmd, hle⟩ := hF.yes m rfl
       have hyes := (hdn m hmo).1 hmd
       have htm := fun H => c_together hB hL hne hmo (by omega) H
       rw [hyes] at htm
       have hLm : LCues b (cuesI m) := fun c hc => by
        have := cuesI_ok hmo c hc
        unfold inI; omega
       refine CallG.pure _ (hc) ?_
       refine If.mk (fun _ => ?_) (fun h => absurd (by decide) h)
       refine If.mk (fun h => absurd h (by omega)) (fun _ => ?_)
       refine CallG.bool (c_versions hB.fit _ (by omega)) (fun _ => ?_) (fun x => absurd hVL x)
       generalize remL b.vs evs b.vs.length = L at *
       refine If.mk (fun h => absurd h (by decide)) (fun _ => ?_)
       refine If.mk (fun h => absurd (List.length_eq_zero_iff.1 (by omega)) hne) (fun _ => ?_)
       refine ifN ?_
       refine If.mk (fun h => absurd h (by decide)) (fun _ => ?_)
       refine ifN ?_
       cases hsu : sameT b.vs b.cues.toNat L u (L.length - 1) with
       | false =>
        rw [hsu] at htg
        refine CallG.pure _ (htg) ?_
        refine If.mk (fun _ => ?_) (fun h => absurd (by decide) h)
        refine ifN ?_
        refine If.mk (fun _ => ?_) (fun h => absurd (by decide) h)
        refine ifN ?_
        refine If.mk (fun h => absurd h (by omega)) (fun _ => ?_)
        refine CallG.bool (c_cues hB.fit (cuesI m) (by omega)) (fun _ => ?_) (fun x => absurd hLm x)
        refine ifN ?_
        refine CallG.pure _ (htm) ?_
        refine CallG.pure _ (known_call) ?_
        exact ⟨.inl rfl, FinG.mk _ rfl rfl rfl⟩
       | true =>
        rw [hsu] at htg
        obtain ⟨k1, k2⟩ := le_ints (hle u hu ((hdn u hu).2 hsu))
        rw [hue] at k1 k2
        refine CallG.pure _ (htg) ?_
        refine If.mk (fun _ => ?_) (fun h => absurd (by decide) h)
        refine ifN ?_
        refine If.mk (fun _ => ?_) (fun h => absurd (by decide) h)
        refine ifN ?_
        refine If.mk (fun h => absurd h (by omega)) (fun _ => ?_)
        refine CallG.bool (c_cues hB.fit (cuesI m) (by omega)) (fun _ => ?_) (fun x => absurd hLm x)
        refine If.mk (fun h => absurd h (by omega)) (fun _ => ?_)
        refine If.mk (fun h => ?_) (fun _ => ?_)
        ·refine CallG.bool (c_before _ _ (by omega)) (fun h9 => absurd h9 (k2 (by omega))) (fun _ => ?_)
         refine ifN ?_
         refine CallG.pure _ (htm) ?_
         refine CallG.pure _ (known_call) ?_
         exact ⟨.inl rfl, FinG.mk _ rfl rfl rfl⟩
        ·refine ifN ?_
         refine CallG.pure _ (htm) ?_
         refine CallG.pure _ (known_call) ?_
         exact ⟨.inl rfl, FinG.mk _ rfl rfl rfl⟩
    ·refine ifY ?_
     refine CallG.pure _ (known_call) ?_
     exact ⟨.inl rfl, FinG.mk _ rfl rfl rfl⟩
  ·refine ifY ?_
   refine CallG.pure _ (known_call) ?_
   exact ⟨.inl rfl, FinG.mk _ rfl rfl rfl⟩
end Go.Vm

namespace Go.Proofs.YtdhdaadoehbopaaGreatDoor
open Go.Vm Go.ChangeShapes Go.WideShapes Go.ChangeAt Go.RowKit
set_option maxHeartbeats 8000000 in
set_option maxRecDepth 100000 in
theorem cueJoined_lifted (os : Os) (started : os.Started) (H : Type) (enc : TypeId × Value → H) :
  ReturnsInHanded {} Tryz.checked os 15 .any (fun w args => (Rows.cueJoinedSpec.pre enc Tryz.prog Tryz.f15 Rows.cueJoinedRow.domain false w args ∧ laidMetH Tryz.prog Rows.cueJoinedRow.laid w) ∧ sizedMet enc Tryz.prog Tryz.f15 (OpenSpec.ofChange Rows.cueJoinedSpec) false w args)
   (Rows.cueJoinedSpec.post enc Tryz.prog Tryz.f15 false true false false) := by
 refine returnsInHanded_of_change_and (C := Tryz.checked) (X := fun w _ => laidMetH Tryz.prog Rows.cueJoinedRow.laid w) (fun _ _ _ hh h => h.of_heap hh) own started (by kernel_rfl) Tryz.func15
  (ChangeSpec.witness_shaped (enc := enc) (C := Tryz.checked) (os := os) (X := fun w _ => laidMetH Tryz.prog Rows.cueJoinedRow.laid w) false (World.laidAll Tryz.prog os Rows.cueJoinedRow.laid) #[.agg #[.int .i64 0, .int .i64 0, .slice none 0 0], .slice none 0 0, .slice none 0 0] 8 (World.laidAll_os _ _ _)
   (World.shaped_of_ZipB (by kernel_rfl) (by kernel_rfl)) (by kernel_rfl) (by kernel_rfl) (by kernel_rfl)
   (by rw [MakeChecks.laidMetH_plain _ _ _ (by kernel_rfl)]; exact laidMet_laidAll _ (by kernel_rfl) (by kernel_rfl))) ?_
 intro W base args ds gs before hval0 hW _ _ _ _
 have hval : ∀ (j : Nat) t v, Tryz.f15.params[j]? = some t → args[j]? = some v → Value.okWide Tryz.prog W .any base t v := hval0
 have hW' := hW
 obtain ⟨p, q, hA0, hV, rfl, _, _⟩ := hW
 have hA : DataW.TrodAll enc Tryz.prog W 0 (fun _ => true) true Tryz.f15.params.toList args.toList ds p := hA0
 rw [Tryz.params15] at hA hval
 obtain ⟨v0, v1, v2, d0, d1, d2, p0, p1, p2, rfl, rfl, rfl, h0, h1, h2⟩ := trodAll_three hA
 obtain ⟨rfl, rfl⟩ := trodVars_none hV
 obtain ⟨x0, r0, _⟩ := arg_book (hval 0 24 v0 rfl rfl) h0
 obtain ⟨x1, r1, _⟩ := arg_evenings (hval 1 40 v1 rfl rfl) h1
 obtain ⟨x2, r2, _⟩ := arg_ints (hval 2 25 v2 rfl rfl) h2
 refine (law_calls (c_cueJoined x0 x1 x2) (by simp only [VRels, and_true]; exact ⟨r0, r1, r2⟩)).mono ?_
 rintro e W' ⟨rfl, hk⟩
 exact ⟨_, rfl, law_post laidOut (by kernel_rfl) (by kernel_rfl) (by kernel_rfl) hW' rfl rfl hk⟩
theorem cueJoined_named : Tryz.pinned.checked.prog.funcNamed Rows.cueJoinedRow.func = some 15 := by kernel_rfl
theorem cueJoined_inst : Tryz.f15.isInstance Tryz.pinned.checked.prog Rows.cueJoinedRow.origin Rows.cueJoinedRow.targs := of_decide_eq_true (by kernel_rfl)
theorem cueJoined_wrap : Tryz.f15.isWrapper Tryz.pinned.checked.prog Rows.cueJoinedRow.wrapper Rows.cueJoinedRow.mainSum := by unfold Func.isWrapper; first | (rw [if_pos (by decide +kernel)]; kernel_rfl) | (rw [if_neg (by decide +kernel)]; exact ⟨rfl, rfl⟩)
set_option maxHeartbeats 8000000 in
theorem cueJoined_closed : joinedFacts Tryz.pinned.checked.prog 15 Tryz.f15 Rows.cueJoinedSpec Rows.cueJoinedRow = true := by
 unfold joinedFacts
 refine and_t (and_t (and_t (and_t (and_t (and_t (and_t (and_t (and_t (and_t (and_t (and_t (and_t (and_t (and_t (and_t (and_t (and_t (and_t (and_t (and_t (and_t (and_t (and_t (and_t (and_t (and_t (and_t (and_t (and_t (and_t ?_ ?_) ?_) ?_) ?_) ?_) ?_) ?_) ?_) ?_) ?_) ?_) ?_) ?_) ?_) ?_) ?_) ?_) ?_) ?_) ?_) ?_) ?_) ?_) ?_) ?_) ?_) ?_) ?_) ?_) ?_) ?_
 ·as_aux_lemma => kernel_rfl
 ·as_aux_lemma => kernel_rfl
 ·as_aux_lemma => kernel_rfl
 ·as_aux_lemma => kernel_rfl
 ·as_aux_lemma => kernel_rfl
 ·as_aux_lemma => kernel_rfl
 ·as_aux_lemma => kernel_rfl
 ·as_aux_lemma => kernel_rfl
 ·as_aux_lemma => kernel_rfl
 ·as_aux_lemma => kernel_rfl
 ·as_aux_lemma => kernel_rfl
 ·as_aux_lemma => kernel_rfl
 ·as_aux_lemma => kernel_rfl
 ·as_aux_lemma => kernel_rfl
 ·as_aux_lemma => kernel_rfl
 ·as_aux_lemma => kernel_rfl
 ·as_aux_lemma => kernel_rfl
 ·as_aux_lemma => kernel_rfl
 ·as_aux_lemma => kernel_rfl
 ·as_aux_lemma => kernel_rfl
 ·as_aux_lemma => kernel_rfl
 ·as_aux_lemma => kernel_rfl
 ·as_aux_lemma => kernel_rfl
 ·as_aux_lemma => kernel_rfl
 ·as_aux_lemma => kernel_rfl
 ·as_aux_lemma => kernel_rfl
 ·as_aux_lemma => kernel_rfl
 ·as_aux_lemma => kernel_rfl
 ·as_aux_lemma => kernel_rfl
 ·as_aux_lemma => kernel_rfl
 ·as_aux_lemma => kernel_rfl
 ·as_aux_lemma => kernel_rfl
theorem cueJoined_holds : Rows.CueJoinedSaid :=
 OpenClaim.holds_of_wide 15 Tryz.f15 rfl rfl rfl rfl rfl rfl rfl ⟨rfl, rfl, rfl, rfl, rfl⟩ rfl rfl rfl rfl rfl cueJoined_named Tryz.func15 cueJoined_closed cueJoined_inst cueJoined_wrap
  (fun os started H enc _ => cueJoined_lifted os started H enc)
set_option maxHeartbeats 8000000 in
theorem cueJoined_card : Rows.CueJoinedCardSaid :=
 Claim7.holds_tied_plain_at .later [] [.data, .data, .data, .data, .pinned] true (true, "d200c2f9484011b2fecf6d987098eee6f4d6857560912b686a09e1298a9b974d") true cueJoined_holds (fun _ h => by cases h) (by as_aux_lemma => kernel_rfl) (fun _ h => by cases h) cueJoined_row_tie rfl ⟨rfl, rfl⟩ (by as_aux_lemma => kernel_rfl) rfl
  (fun f fn hf hfn => by
   obtain rfl : f = 15 := Option.some.inj (cueJoined_named.symm.trans hf) |>.symm
   obtain rfl : fn = Tryz.f15 := (Option.some.inj (Tryz.func15.symm.trans hfn)).symm
   exact ⟨by as_aux_lemma => kernel_rfl, fun j t ht => by
    rw [Tryz.params15] at ht
    have hm : t ∈ [24, 40, 25] := by simpa using Array.mem_of_getElem? ht
    have hall : ([24, 40, 25].all fun u => !Tryz.prog.wantsStandIn u) = true := by kernel_rfl
    exact (show Tryz.prog.wantsStandIn t = false by simpa using List.all_eq_true.1 hall t hm)⟩)
  (by as_aux_lemma => kernel_rfl)
end Go.Proofs.YtdhdaadoehbopaaGreatDoor

/-
  The law CueReads of package kelirlaw04 returns true for every input, and each argument reads afterwards as it read before: the tied card. Conditions: what the row lists of package-level variables, tied to the text of the program.
-/
import Derived.Test.YtdhdaadoehbopaaGreatDoorVr
import Derived.Test.YtdhdaadoehbopaaGreatDoorEa
import Derived.ChangeArms
import Derived.Test.YtdhdaadoehbopaaGreatDoorEb
import Derived.Test.YtdhdaadoehbopaaGreatDoorEc
import Derived.Test.YtdhdaadoehbopaaGreatDoorRows
import Derived.Test.YtdhdaadoehbopaaGreatDoorTie
import Derived.Test.YtdhdaadoehbopaaGreatDoorCards
import Derived.SevenTiedAt

namespace Go.Vm
open Go.Proofs Go.ChangeShapes Go.WideShapes Go.RowKit
theorem RdC.string {P : Program} {w : World} {t : TypeId} (ht : P.underlying t = some .string) : RdC P w t (fun s => [sA s]) (fun _ => True) := by
 intro H enc base spare held fuel cs x h
 obtain ⟨s, rfl, _⟩ := DataW.trod_string ht h
 exact ⟨s, by simp only [VRels, sA, VRel, and_true], trivial⟩
section
variable {H : Type} {enc : TypeId × Value → H} {w : World} {r : Reach} {b0 base : Nat} {sp : Nat → Bool} {held : Bool} {v : Value} {d : DataW H} {ps : List MemPlace}
set_option maxRecDepth 100000 in
theorem arg_string (hok : Value.okWide Tryz.prog w r b0 9 v) (hd : DataW.Trod enc Tryz.prog w base sp held 9 v d ps) : ∃ a, @VRel (allOut w) (sit0 w) (sA a) v ∧ True := (RdC.string Tryz.underlying9).cell (okWide_cell (.inr (.inr (.inr Tryz.underlying9))) hok) hd
end
end Go.Vm

namespace Go.Vm
open Go.Proofs Go.RowKit
theorem low0 : LowB ⟨0, 0, []⟩ := low_of (N := 0) (c := 0) (t := 0) (by decide) (by decide) (by decide) (fun v hv => by cases hv) (Nat.le_refl _)
set_option maxRecDepth 100000 in
theorem c_cueReads (s : ByteArray) (H : List Blk) : ACall Tryz.prog 25 [sA s] H (.ret (.lit (.bool true))) H := by
 refine fn_rule (m := false) (fn := Tryz.f25) (c := (Tryz.f25.body).getD .skip) mixed (by kernel_rfl) (by kernel_rfl) (of_decide_eq_true (by kernel_rfl)) ?_ ?_ ?_ H
 ·exact ⟨trivial, trivial⟩
 ·trivial
 ·have hsz : s.size = (lB s).length := rfl
  refine If.mk (fun h1 => ?_) (fun h1 => ?_)
  ·refine ifY ?_
   refine CallG.pure _ (known_call) ?_
   exact ⟨.inl rfl, FinG.mk _ rfl rfl rfl⟩
  ·refine ifN ?_
   have hl : (lB s).length ≤ 600 := by omega
   have hrd := c_Read hl
   rw [bT_lB] at hrd
   by_cases h2 : 450 < (lB s).length
   ·rw [readV_long h2] at hrd
    refine CallG.pure _ (hrd) ?_
    cases hb : bookOf (lB s) with
    | none =>
     refine CallG.pure _ ((bT_lB s ▸ c_refRead_none hl hb)) ?_
     refine If.mk (fun _ => ?_) (fun h => absurd (by omega) h)
     refine ifY ?_
     refine If.mk (fun h => absurd h (by decide)) (fun _ => ?_)
     refine ifY ?_
     refine If.mk (fun _ => ?_) (fun h => absurd (by decide) h)
     refine CallG.weak _ (.cons (fun H => wk_bookZ 0 0 H) (.cons (fun H => wk_bookZ 0 0 H) .nil)) (c_sameLow low0) ?_
     refine CallG.pure _ (known_call) ?_
     exact ⟨.inl rfl, FinG.mk _ rfl rfl rfl⟩
    | some b =>
     refine CallG.pure _ ((bT_lB s ▸ c_refRead_some hl hb)) ?_
     refine If.mk (fun _ => ?_) (fun h => absurd (by omega) h)
     refine ifY ?_
     refine If.mk (fun h => absurd h (by decide)) (fun _ => ?_)
     refine ifY ?_
     refine If.mk (fun _ => ?_) (fun h => absurd (by decide) h)
     refine CallG.weak _ (.cons (fun H => wk_bookZ 0 0 H) (.cons (fun H => wk_bookZ 0 0 H) .nil)) (c_sameLow low0) ?_
     refine CallG.pure _ (known_call) ?_
     exact ⟨.inl rfl, FinG.mk _ rfl rfl rfl⟩
   ·cases hb : bookOf (lB s) with
    | none =>
     rw [readV_none h2 hb] at hrd
     refine CallG.pure _ (hrd) ?_
     refine CallG.pure _ ((bT_lB s ▸ c_refRead_none hl hb)) ?_
     refine If.mk (fun h => absurd h (by omega)) (fun _ => ?_)
     refine ifN ?_
     refine ifY ?_
     refine If.mk (fun h => absurd h (by decide)) (fun _ => ?_)
     refine ifY ?_
     refine If.mk (fun _ => ?_) (fun h => absurd (by decide) h)
     refine CallG.weak _ (.cons (fun H => wk_bookZ 0 0 H) (.cons (fun H => wk_bookZ 0 0 H) .nil)) (c_sameLow low0) ?_
     refine CallG.pure _ (known_call) ?_
     exact ⟨.inl rfl, FinG.mk _ rfl rfl rfl⟩
    | some b =>
     obtain ⟨hlow, he⟩ := bookOf_some.1 hb
     have hrf := c_refRead_some hl hb
     rw [bT_lB] at he hrf
     by_cases hB : BOk b
     ·rw [readV_ok h2 hb hB] at hrd
      have hp := c_Print hlow.len hB
      obtain ⟨X, hX⟩ : ∃ X, X = sA (sealS (rowsB b)) := ⟨_, rfl⟩
      rw [← hX] at hp
      refine CallG.pure _ (hrd) ?_
      refine CallG.pure _ (hrf) ?_
      refine If.mk (fun h => absurd h (by omega)) (fun _ => ?_)
      refine ifN ?_
      refine ifN ?_
      refine CallG.bool (c_book hlow.len) (fun _ => ?_) (fun x => absurd hB x)
      refine ifN ?_
      refine If.mk (fun _ => ?_) (fun h => absurd (by decide) h)
      refine ifN ?_
      refine CallG.pure _ (hp) ?_
      refine If.mk (fun _ => ?_) (fun h => absurd (by decide) h)
      refine CallG.pure _ (c_sameLow hlow) ?_
      refine If.mk (fun _ => ?_) (fun h => absurd (by decide) h)
      refine gBin_eqlX true hX (str_eq.2 he) ?_
      refine CallG.pure _ (known_call) ?_
      exact ⟨.inl rfl, FinG.mk _ rfl rfl rfl⟩
     ·rw [readV_bad h2 hb hB] at hrd
      refine CallG.pure _ (hrd) ?_
      refine CallG.pure _ (hrf) ?_
      refine If.mk (fun h => absurd h (by omega)) (fun _ => ?_)
      refine ifN ?_
      refine ifN ?_
      refine CallG.bool (c_book hlow.len) (fun x => absurd x hB) (fun _ => ?_)
      refine ifY ?_
      refine If.mk (fun h => absurd h (by decide)) (fun _ => ?_)
      refine ifY ?_
      refine If.mk (fun _ => ?_) (fun h => absurd (by decide) h)
      refine CallG.weak _ (.cons (fun H => wk_bookZ 0 0 H) (.cons (fun H => wk_bookZ 0 0 H) .nil)) (c_sameLow low0) ?_
      refine CallG.pure _ (known_call) ?_
      exact ⟨.inl rfl, FinG.mk _ rfl rfl rfl⟩
end Go.Vm

namespace Go.Proofs.YtdhdaadoehbopaaGreatDoor
open Go.Vm Go.ChangeShapes Go.WideShapes Go.ChangeAt Go.RowKit
set_option maxHeartbeats 8000000 in
set_option maxRecDepth 100000 in
theorem cueReads_lifted (os : Os) (started : os.Started) (H : Type) (enc : TypeId × Value → H) :
  ReturnsInHanded {} Tryz.checked os 25 .any (fun w args => (Rows.cueReadsSpec.pre enc Tryz.prog Tryz.f25 Rows.cueReadsRow.domain false w args ∧ laidMetH Tryz.prog Rows.cueReadsRow.laid w) ∧ sizedMet enc Tryz.prog Tryz.f25 (OpenSpec.ofChange Rows.cueReadsSpec) false w args)
   (Rows.cueReadsSpec.post enc Tryz.prog Tryz.f25 false true false false) := by
 refine returnsInHanded_of_change_and (C := Tryz.checked) (X := fun w _ => laidMetH Tryz.prog Rows.cueReadsRow.laid w) (fun _ _ _ hh h => h.of_heap hh) own started (by kernel_rfl) Tryz.func25
  (ChangeSpec.witness_shaped (enc := enc) (C := Tryz.checked) (os := os) (X := fun w _ => laidMetH Tryz.prog Rows.cueReadsRow.laid w) false (World.laidAll Tryz.prog os Rows.cueReadsRow.laid) #[.string ByteArray.empty] 8 (World.laidAll_os _ _ _)
   (World.shaped_of_ZipB (by kernel_rfl) (by kernel_rfl)) (by kernel_rfl) (by kernel_rfl) (by kernel_rfl)
   (by rw [MakeChecks.laidMetH_plain _ _ _ (by kernel_rfl)]; exact laidMet_laidAll _ (by kernel_rfl) (by kernel_rfl))) ?_
 intro W base args ds gs before hval0 hW _ _ _ _
 have hval : ∀ (j : Nat) t v, Tryz.f25.params[j]? = some t → args[j]? = some v → Value.okWide Tryz.prog W .any base t v := hval0
 have hW' := hW
 obtain ⟨p, q, hA0, hV, rfl, _, _⟩ := hW
 have hA : DataW.TrodAll enc Tryz.prog W 0 (fun _ => true) true Tryz.f25.params.toList args.toList ds p := hA0
 rw [Tryz.params25] at hA hval
 obtain ⟨v0, d0, rfl, rfl, h0⟩ := trodAll_one hA
 obtain ⟨rfl, rfl⟩ := trodVars_none hV
 obtain ⟨x0, r0, _⟩ := arg_string (hval 0 9 v0 rfl rfl) h0
 refine (law_calls (c_cueReads x0) (by simp only [VRels, and_true]; exact r0)).mono ?_
 rintro e W' ⟨rfl, hk⟩
 exact ⟨_, rfl, law_post laidOut (by kernel_rfl) (by kernel_rfl) (by kernel_rfl) hW' rfl rfl hk⟩
theorem cueReads_named : Tryz.pinned.checked.prog.funcNamed Rows.cueReadsRow.func = some 25 := by kernel_rfl
theorem cueReads_inst : Tryz.f25.isInstance Tryz.pinned.checked.prog Rows.cueReadsRow.origin Rows.cueReadsRow.targs := of_decide_eq_true (by kernel_rfl)
theorem cueReads_wrap : Tryz.f25.isWrapper Tryz.pinned.checked.prog Rows.cueReadsRow.wrapper Rows.cueReadsRow.mainSum := by unfold Func.isWrapper; first | (rw [if_pos (by decide +kernel)]; kernel_rfl) | (rw [if_neg (by decide +kernel)]; exact ⟨rfl, rfl⟩)
set_option maxHeartbeats 8000000 in
theorem cueReads_closed : joinedFacts Tryz.pinned.checked.prog 25 Tryz.f25 Rows.cueReadsSpec Rows.cueReadsRow = true := by
 unfold joinedFacts
 refine and_t (and_t (and_t (and_t (and_t (and_t (and_t (and_t (and_t (and_t (and_t (and_t (and_t (and_t (and_t (and_t (and_t (and_t (and_t (and_t (and_t (and_t (and_t (and_t (and_t (and_t (and_t (and_t (and_t (and_t (and_t ?_ ?_) ?_) ?_) ?_) ?_) ?_) ?_) ?_) ?_) ?_) ?_) ?_) ?_) ?_) ?_) ?_) ?_) ?_) ?_) ?_) ?_) ?_) ?_) ?_) ?_) ?_) ?_) ?_) ?_) ?_) ?_
 ·as_aux_lemma => kernel_rfl
 ·as_aux_lemma => kernel_rfl
 ·as_aux_lemma => kernel_rfl
 ·as_aux_lemma => kernel_rfl
 ·as_aux_lemma => kernel_rfl
 ·as_aux_lemma => kernel_rfl
 ·as_aux_lemma => kernel_rfl
 ·as_aux_lemma => kernel_rfl
 ·as_aux_lemma => kernel_rfl
 ·as_aux_lemma => kernel_rfl
 ·as_aux_lemma => kernel_rfl
 ·as_aux_lemma => kernel_rfl
 ·as_aux_lemma => kernel_rfl
 ·as_aux_lemma => kernel_rfl
 ·as_aux_lemma => kernel_rfl
 ·as_aux_lemma => kernel_rfl
 ·as_aux_lemma => kernel_rfl
 ·as_aux_lemma => kernel_rfl
 ·as_aux_lemma => kernel_rfl
 ·as_aux_lemma => kernel_rfl
 ·as_aux_lemma => kernel_rfl
 ·as_aux_lemma => kernel_rfl
 ·as_aux_lemma => kernel_rfl
 ·as_aux_lemma => kernel_rfl
 ·as_aux_lemma => kernel_rfl
 ·as_aux_lemma => kernel_rfl
 ·as_aux_lemma => kernel_rfl
 ·as_aux_lemma => kernel_rfl
 ·as_aux_lemma => kernel_rfl
 ·as_aux_lemma => kernel_rfl
 ·as_aux_lemma => kernel_rfl
 ·as_aux_lemma => kernel_rfl
theorem cueReads_holds : Rows.CueReadsSaid :=
 OpenClaim.holds_of_wide 25 Tryz.f25 rfl rfl rfl rfl rfl rfl rfl ⟨rfl, rfl, rfl, rfl, rfl⟩ rfl rfl rfl rfl rfl cueReads_named Tryz.func25 cueReads_closed cueReads_inst cueReads_wrap
  (fun os started H enc _ => cueReads_lifted os started H enc)
set_option maxHeartbeats 8000000 in
theorem cueReads_card : Rows.CueReadsCardSaid :=
 Claim7.holds_tied_plain_at .later [] [.data, .data, .data, .data, .pinned] true (true, "d200c2f9484011b2fecf6d987098eee6f4d6857560912b686a09e1298a9b974d") true cueReads_holds (fun _ h => by cases h) (by as_aux_lemma => kernel_rfl) (fun _ h => by cases h) cueReads_row_tie rfl ⟨rfl, rfl⟩ (by as_aux_lemma => kernel_rfl) rfl
  (fun f fn hf hfn => by
   obtain rfl : f = 25 := Option.some.inj (cueReads_named.symm.trans hf) |>.symm
   obtain rfl : fn = Tryz.f25 := (Option.some.inj (Tryz.func25.symm.trans hfn)).symm
   exact ⟨by as_aux_lemma => kernel_rfl, fun j t ht => by
    rw [Tryz.params25] at ht
    have hm : t ∈ [9] := by simpa using Array.mem_of_getElem? ht
    have hall : ([9].all fun u => !Tryz.prog.wantsStandIn u) = true := by kernel_rfl
    exact (show Tryz.prog.wantsStandIn t = false by simpa using List.all_eq_true.1 hall t hm)⟩)
  (by as_aux_lemma => kernel_rfl)
end Go.Proofs.YtdhdaadoehbopaaGreatDoor

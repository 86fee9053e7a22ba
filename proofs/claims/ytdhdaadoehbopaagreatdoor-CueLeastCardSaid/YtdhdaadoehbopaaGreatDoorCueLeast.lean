/-
  The law CueLeast of package kelirlaw04 returns true for every input, and each argument reads afterwards as it read before: the tied card. Conditions: what the row lists of package-level variables, tied to the text of the program.
-/
import Derived.Test.YtdhdaadoehbopaaGreatDoorCs
import Derived.Test.YtdhdaadoehbopaaGreatDoorCv
import Derived.Test.YtdhdaadoehbopaaGreatDoorVk
import Derived.Test.YtdhdaadoehbopaaGreatDoorVr
import Derived.Test.YtdhdaadoehbopaaGreatDoorRows
import Derived.Test.YtdhdaadoehbopaaGreatDoorTie
import Derived.Test.YtdhdaadoehbopaaGreatDoorCards
import Derived.SevenTiedAt

namespace Go.Vm
open Go.Proofs
set_option maxRecDepth 100000 in
theorem c_right68W {b : Book} (hb : BFit b) (v : Vers) (hl : v.length < 4611686018427387904) (hb4 : b.cues ≤ 4) (H : List Blk) : ACall Tryz.prog 68 [eBook b, eVersion v] H (.ret (.lit (.bool (decide (VOk b v))))) H := by
 refine fn_rule (m := false) (fn := Tryz.f68) (c := (Tryz.f68.body).getD .skip) mixed (by kernel_rfl) (by kernel_rfl) (of_decide_eq_true (by kernel_rfl)) ?_ ?_ ?_ H
 ·exact ⟨under_eBook 0 _, under_eVersion 0 _, trivial⟩
 ·trivial
 ·refine LoopG.at (n0 := 2) rfl (loop_up mixed (m := false) (fun r => [(2, .ptr 0 0), (3, .ptr 1 0), (5, n' r)]) (fun _ => [(0, bBox b), (1, vBox v)]) (fun r => ∀ x ∈ v.take r, StOk b v x) v.length 0 (Nat.zero_le _) (fun _ h => by simp at h) ?_ ?_ ?_)
  ·exact ⟨wp rfl (ltb rfl), wp rfl (ltb rfl), wp rfl trivial, trivial⟩
  ·exact ⟨bk rfl rfl, bk rfl rfl, trivial⟩
  ·intro r hr hI
   refine If.mk (fun h1 => ?_) (fun h1 => ?_)
   ·refine ifY ?_
    have hr' : r < v.length := by omega
    refine Ex.mk _ (ix_states (r := r) rfl (by omega)) ?_
    refine Ex.mk _ rfl ?_
    refine If.mk (fun h2 => ?_) (fun h2 => ?_)
    ·refine ifN ?_
     have hs : v[r].length < 4611686018427387904 := by omega
     refine LoopG.at (n0 := 11) rfl (loop_up mixed (m := false) (fun q => [(2, .ptr 0 0), (3, .ptr 1 0), (5, n' r), (6, n' q)]) (fun _ => [(0, bBox b), (1, vBox v)]) (fun q => ∀ m ∈ v[r].take q, inI m.1 0 (v.length - 1) ∧ inI m.2 0 (b.tunes - 1)) v[r].length 11 (leb rfl) (fun _ h => by simp at h) ?_ ?_ ?_)
     ·exact ⟨wp rfl (ltb rfl), wp rfl (ltb rfl), wp rfl trivial, wp rfl trivial, trivial⟩
     ·exact ⟨bk rfl rfl, bk rfl rfl, trivial⟩
     ·intro q hq hJ
      refine Ex.mk _ (ix_states (r := r) rfl (by omega)) ?_
      refine Ex.mk _ rfl ?_
      refine If.mk (fun h3 => ?_) (fun h3 => ?_)
      ·refine ifY ?_
       refine Ex.mk _ (ix_states (r := r) rfl (by omega)) ?_
       refine Ex.mk _ rfl ?_
       refine Ex.mk _ (ix_moves (r := q) rfl (by omega)) ?_
       refine Ex.mk _ rfl ?_
       refine Side.mk (fits64 (by omega)) ?_
       refine CallG.bool (c_rin _ _ _) (fun h => ?_) (fun h => ?_)
       ·refine CallG.bool (c_tune hb _) (fun h4 => ?_) (fun h4 => ?_)
        ·refine ifN ?_
         refine Side.mk (fits64 (by omega)) ?_
         exact ⟨leb rfl, rfl, by omega, all_snoc (by omega) hJ ⟨h, h4⟩, ⟨wp rfl (ltb rfl), wp rfl (ltb rfl), wp rfl trivial, wp rfl trivial, trivial⟩, ⟨bk rfl rfl, bk rfl rfl, trivial⟩, trivial⟩
        ·refine ifY ?_
         exact ⟨leb rfl, Nat.zero_le _, .inl rfl, FinG.no rfl rfl (fun x => h4 ((x.1 _ (List.getElem_mem hr')).2 _ (List.getElem_mem _)).2)⟩
       ·refine ifY ?_
        exact ⟨leb rfl, Nat.zero_le _, .inl rfl, FinG.no rfl rfl (fun x => h ((x.1 _ (List.getElem_mem hr')).2 _ (List.getElem_mem _)).1)⟩
      ·refine ifN ?_
       refine ⟨leb rfl, ?_⟩
       refine Side.mk (fits64 (by omega)) ?_
       exact ⟨Nat.zero_le _, rfl, by omega, all_snoc (by omega) hI ⟨h2, all_end (by omega) hJ⟩, ⟨wp rfl (ltb rfl), wp rfl (ltb rfl), wp rfl trivial, trivial⟩, ⟨bk rfl rfl, bk rfl rfl, trivial⟩, trivial⟩
    ·refine ifY ?_
     exact ⟨Nat.zero_le _, .inl rfl, FinG.no rfl rfl (fun x => h2 (x.1 _ (List.getElem_mem hr')).1)⟩
   ·refine ifN ?_
    refine ⟨Nat.zero_le _, ?_⟩
    refine CallG.pure _ (c_rin _ _ _) ?_
    refine ⟨.inl rfl, FinG.bool rfl rfl ?_⟩
    rw [decide_eq_true_iff]
    exact ⟨fun x => x.2, fun x => ⟨all_end (by omega) hI, x⟩⟩
set_option maxHeartbeats 8000000 in
set_option maxRecDepth 100000 in
theorem c_cueLeast (b : Book) (version : Int) (v : Vers) (H : List Blk) : ACall Tryz.prog 17 [eBook b, n' version, eVersion v] H (.ret (.lit (.bool true))) H := by
 refine fn_rule (m := false) (fn := Tryz.f17) (c := (Tryz.f17.body).getD .skip) mixed (by kernel_rfl) (by kernel_rfl) (of_decide_eq_true (by kernel_rfl)) ?_ ?_ ?_ H
 ·exact ⟨under_eBook 0 _, trivial, under_eVersion 0 _, trivial⟩
 ·trivial
 ·refine CallG.wbool (.cons (fun H => WeakH.refl _ H) (.cons wk_nilE .nil)) (c_right b []) (fun hR => ?_) (fun _ => ?_)
  ·obtain ⟨⟨⟨hsh, _⟩, hB⟩, _⟩ := hR
   refine CallG.bool (c_version hB.fit _) (fun h2 => ?_) (fun _ => ?_)
   ·refine If.mk (fun h4 => ?_) (fun h4 => ?_)
    ·refine ifY ?_
     refine CallG.pure _ (known_call) ?_
     exact ⟨.inl rfl, FinG.mk _ rfl rfl rfl⟩
    ·refine CallG.bool (c_right68W hB.fit v (by omega) (by have := hB.1.1; unfold inI at this; omega)) (fun hO => ?_) (fun _ => ?_)
     ·refine ifN ?_
      have hi := h2
      have hbc := hB.1.1
      have hvn := hB.1.2.2
      unfold inI at hi hbc hvn
      obtain ⟨i, rfl⟩ : ∃ i : Nat, version = (i : Int) := ⟨version.toNat, by omega⟩
      have hi' : i < b.vs.length := by omega
      obtain ⟨hvi, hvm⟩ := vAt_of hi'
      have hW := hB.2 _ hvm
      obtain ⟨hw, hw0⟩ := hW.vers
      obtain ⟨N, hE⟩ := exit_some (nxS_lt hw) hw0 (alF_refl hw)
      have hN := red_few hw hw0 hE
      have hN0 := red_some hE
      have hrl := red_length (v := vAt b.vs i) (K := b.cues.toNat) (N := N)
      have hrv := red_vers hw hw0 hE
      have hra := fun u hu => red_alike hw hw0 hE (u := u) hu
      have hwl := hW.2
      have hrt := red_tunes hw hw0 hE (lo := 0) (hi := b.tunes - 1) fun s hs m hm => by
       have := ((hW.1 s hs).2 m hm).2
       unfold inI at this; omega
      unfold inI at hwl
      have hred : VOk b (redR (alF (vAt b.vs i) b.cues.toNat) (vAt b.vs i) b.cues.toNat N) := by
       refine ⟨fun s hs => ⟨?_, fun m hm => ⟨?_, ?_⟩⟩, by unfold inI; omega⟩
       ·have := (hrv s hs).1; omega
       ·have := (hrv s hs).2 m hm; unfold inI; omega
       ·have := hrt s hs m hm; unfold inI; omega
      have hRl : ∀ s ∈ redR (alF (vAt b.vs i) b.cues.toNat) (vAt b.vs i) b.cues.toNat N, s.length ≤ 1000000 := fun s hs => by
       have := (hrv s hs).1
       omega
      refine CallG.pure _ (c_Reduce hsh.len hB hi' hE) ?_
      refine If.mk (fun _ => ?_) (fun h => absurd (by decide) h)
      refine If.mk (fun h => absurd h (by omega)) (fun _ => ?_)
      refine CallG.bool (c_right68W hB.fit _ (by omega) (by omega)) (fun _ => ?_) (fun x => absurd hred x)
      refine ifN ?_
      refine Ex.mk _ (jx_versions (r := i) rfl hvi) ?_
      refine Ex.mk _ rfl ?_
      obtain ⟨hv, hv0⟩ := hO.vers
      obtain ⟨N2, hE2⟩ := exit_some (nxS_lt hv) hv0 (alF_refl hv)
      have hv4 := hO.2
      unfold inI at hv4
      have hr2l := red_length (v := v) (K := b.cues.toNat) (N := N2)
      have hN2 := red_few hv hv0 hE2
      have hr2v := red_vers hv hv0 hE2
      have hr2a := fun u hu => red_alike hv hv0 hE2 (u := u) hu
      have hR2l : ∀ s ∈ redR (alF v b.cues.toNat) v b.cues.toNat N2, s.length ≤ 1000000 := fun s hs => by
       have := (hr2v s hs).1
       omega
      have hsame : (∀ u, OkL b.cues.toNat u → plays (vAt b.vs i) 0 (cuesI u) = plays v 0 (cuesI u)) → redR (alF (vAt b.vs i) b.cues.toNat) (vAt b.vs i) b.cues.toNat N = redR (alF v b.cues.toNat) v b.cues.toNat N2 ∧ N ≤ v.length := fun h => by
       have hx : xal (vAt b.vs i) v b.cues.toNat 0 0 := ⟨hw0, hv0, h⟩
       obtain rfl := (exit_same hw hv hx hE).unique hE2
       exact ⟨red_same hw hv hx hE, hN2⟩
      generalize hR : redR (alF (vAt b.vs i) b.cues.toNat) (vAt b.vs i) b.cues.toNat N = R at *
      generalize hRR : redR (alF v b.cues.toNat) v b.cues.toNat N2 = R2 at *
      obtain ⟨ob, hob⟩ : ∃ ob : Book, ob = ⟨b.cues, b.tunes, [vAt b.vs i, R, v]⟩ := ⟨_, rfl⟩
      have hob3 : ∀ x ∈ [vAt b.vs i, R, v], VOk b x := fun x hx => by
       simp at hx
       rcases hx with rfl | rfl | rfl
       ·exact hW
       ·exact hred
       ·exact hO
      have hBo : BOk ob := by
       subst hob
       exact ⟨⟨hB.1.1, hB.1.2.1, by show inI (3 : Int) 1 4; unfold inI; omega⟩, hob3⟩
      have hLo : BLen ob := by
       subst hob
       refine ⟨by show 3 < _; omega, fun x hx => ?_⟩
       obtain ⟨g1, g2, g3⟩ := hob3 x hx
       refine ⟨by omega, fun st hst => ?_⟩
       have g4 : (st.length : Int) = b.cues := (g1 st hst).1
       omega
      have hD1 : dT (vAt b.vs i) R b.cues.toNat 0 0 = [] := by
       have := (hred.vers).2
       have k := (dT_ok hw hred.vers.1 hw0 this).1
       exact Classical.byContradiction fun hne => (k hne).2.1 (hra _ (k hne).1).symm
      have ht1 : ∀ H, ACall Tryz.prog 50 [eBook ob, n' 0, n' 1] H (.ret (tellV none)) H := fun H => by
       have := c_tellD (b := ob) (i := 0) (j := 1) hLo hBo (by subst hob; show inI (0 : Int) 0 (3 - 1); unfold inI; omega) (by subst hob; show inI (1 : Int) 0 (3 - 1); unfold inI; omega) (v := vAt b.vs i) (w := R) (by subst hob; rfl) (by subst hob; rfl) H
       have e : ob.cues = b.cues := by rw [hob]
       rw [e, hD1] at this
       exact this
      have ht2 : ∀ H, ACall Tryz.prog 50 [eBook ob, n' 0, n' 2] H (.ret (tellV (tellO (dT (vAt b.vs i) v b.cues.toNat 0 0)))) H := fun H => by
       have := c_tellD (b := ob) (i := 0) (j := 2) hLo hBo (by subst hob; show inI (0 : Int) 0 (3 - 1); unfold inI; omega) (by subst hob; show inI (2 : Int) 0 (3 - 1); unfold inI; omega) (v := vAt b.vs i) (w := v) (by subst hob; rfl) (by subst hob; rfl) H
       have e : ob.cues = b.cues := by rw [hob]
       rwa [e] at this
      have hrd : ∀ H, ACall Tryz.prog 65 [eBook ob, n' (2 : Nat)] H (.ret (.tup [eVersion R2, .lit (.int .i64 0)])) H := fun H => by
       have ec : ob.cues = b.cues := by rw [hob]
       have ev : vAt ob.vs 2 = v := by rw [hob]; rfl
       have := c_Reduce (b := ob) (i := 2) (N := N2) hLo hBo (by rw [hob]; show 2 < 3; omega) (by rw [ec, ev]; exact hE2) H
       rw [ec, ev, hRR] at this
       exact this
      have hwk : ∀ H, WeakH H (.agg [n' b.cues, n' b.tunes, .sl 3 [eStates (vAt b.vs i), eStates R, eStates v] .full]) (eBook ob) := fun H => by
       subst hob
       exact wk_agg (.cons (fun H => WeakH.refl _ H) (.cons (fun H => WeakH.refl _ H) (.cons (fun H => WeakH.tail _ _ _ H) .nil)))
      refine CallG.weak _ (.cons hwk (.cons (fun H => WeakH.refl _ H) (.cons (fun H => WeakH.refl _ H) .nil))) ht1 ?_
      obtain ⟨k1, k2⟩ := dT_ok hw hv hw0 hv0
      cases hD : dT (vAt b.vs i) v b.cues.toNat 0 0 with
      | nil =>
       obtain ⟨hs1, hs2⟩ := hsame fun u hu => Classical.byContradiction fun hne => k2 hD u hu hne
       rw [hD] at ht2
       refine CallG.weak _ (.cons hwk (.cons (fun H => WeakH.refl _ H) (.cons (fun H => WeakH.refl _ H) .nil))) (show ∀ H, ACall Tryz.prog 50 [eBook ob, n' 0, n' 2] H (.ret (tellV none)) H from ht2) ?_
       refine CallG.weak _ (.cons hwk (.cons (fun H => WeakH.refl _ H) .nil)) hrd ?_
       refine If.mk (fun _ => ?_) (fun h => absurd (by decide) h)
       refine If.mk (fun h => absurd h (by decide)) (fun _ => ?_)
       refine If.mk (fun _ => ?_) (fun h => absurd (by decide) h)
       refine If.mk (fun _ => ?_) (fun h => absurd (by decide) h)
       refine ifN ?_
       refine If.mk (fun _ => ?_) (fun h => absurd (by decide) h)
       refine If.mk (fun _ => ?_) (fun h => absurd (by omega) h)
       refine CallG.bool (c_sameVersions R R2 (by omega) hRl (by omega) hR2l) (fun _ => ?_) (fun x => absurd hs1 x)
       refine If.mk (fun h => absurd h (by decide)) (fun _ => ?_)
       refine CallG.pure _ (known_call) ?_
       exact ⟨.inl rfl, FinG.mk _ rfl rfl rfl⟩
      | cons c D =>
       have hnn : dT (vAt b.vs i) v b.cues.toNat 0 0 ≠ [] := by rw [hD]; simp
       have hdiff : ¬ R = R2 := fun e => by
        obtain ⟨g1, g2, _⟩ := k1 hnn
        refine g2 ?_
        rw [← hra _ g1, e, hr2a _ g1]
       rw [hD] at ht2
       refine CallG.weak _ (.cons hwk (.cons (fun H => WeakH.refl _ H) (.cons (fun H => WeakH.refl _ H) .nil))) (show ∀ H, ACall Tryz.prog 50 [eBook ob, n' 0, n' 2] H (.ret (tellV (some (c :: D)))) H from ht2) ?_
       refine CallG.weak _ (.cons hwk (.cons (fun H => WeakH.refl _ H) .nil)) hrd ?_
       refine If.mk (fun _ => ?_) (fun h => absurd (by decide) h)
       refine If.mk (fun _ => ?_) (fun h => absurd (by decide) h)
       refine If.mk (fun _ => ?_) (fun h => absurd (by decide) h)
       refine ifN ?_
       refine If.mk (fun h => absurd h (by decide)) (fun _ => ?_)
       refine If.mk (fun _ => ?_) (fun h => absurd (by decide) h)
       refine CallG.bool (c_sameVersions R R2 (by omega) hRl (by omega) hR2l) (fun x => absurd x hdiff) (fun _ => ?_)
       refine CallG.pure _ (known_call) ?_
       exact ⟨.inl rfl, FinG.mk _ rfl rfl rfl⟩
     ·refine ifY ?_
      refine CallG.pure _ (known_call) ?_
      exact ⟨.inl rfl, FinG.mk _ rfl rfl rfl⟩
   ·refine ifY ?_
    refine CallG.pure _ (known_call) ?_
    exact ⟨.inl rfl, FinG.mk _ rfl rfl rfl⟩
  ·refine ifY ?_
   refine CallG.pure _ (known_call) ?_
   exact ⟨.inl rfl, FinG.mk _ rfl rfl rfl⟩
end Go.Vm

namespace Go.Proofs.YtdhdaadoehbopaaGreatDoor
open Go.Vm Go.ChangeShapes Go.WideShapes Go.ChangeAt Go.RowKit
set_option maxHeartbeats 8000000 in
set_option maxRecDepth 100000 in
theorem cueLeast_lifted (os : Os) (started : os.Started) (H : Type) (enc : TypeId × Value → H) :
  ReturnsInHanded {} Tryz.checked os 17 .any (fun w args => (Rows.cueLeastSpec.pre enc Tryz.prog Tryz.f17 Rows.cueLeastRow.domain false w args ∧ laidMetH Tryz.prog Rows.cueLeastRow.laid w) ∧ sizedMet enc Tryz.prog Tryz.f17 (OpenSpec.ofChange Rows.cueLeastSpec) false w args)
   (Rows.cueLeastSpec.post enc Tryz.prog Tryz.f17 false true false false) := by
 refine returnsInHanded_of_change_and (C := Tryz.checked) (X := fun w _ => laidMetH Tryz.prog Rows.cueLeastRow.laid w) (fun _ _ _ hh h => h.of_heap hh) own started (by kernel_rfl) Tryz.func17
  (ChangeSpec.witness_shaped (enc := enc) (C := Tryz.checked) (os := os) (X := fun w _ => laidMetH Tryz.prog Rows.cueLeastRow.laid w) false (World.laidAll Tryz.prog os Rows.cueLeastRow.laid) #[.agg #[.int .i64 0, .int .i64 0, .slice none 0 0], .int .i64 0, .agg #[.slice none 0 0]] 8 (World.laidAll_os _ _ _)
   (World.shaped_of_ZipB (by kernel_rfl) (by kernel_rfl)) (by kernel_rfl) (by kernel_rfl) (by kernel_rfl)
   (by rw [MakeChecks.laidMetH_plain _ _ _ (by kernel_rfl)]; exact laidMet_laidAll _ (by kernel_rfl) (by kernel_rfl))) ?_
 intro W base args ds gs before hval0 hW _ _ _ _
 have hval : ∀ (j : Nat) t v, Tryz.f17.params[j]? = some t → args[j]? = some v → Value.okWide Tryz.prog W .any base t v := hval0
 have hW' := hW
 obtain ⟨p, q, hA0, hV, rfl, _, _⟩ := hW
 have hA : DataW.TrodAll enc Tryz.prog W 0 (fun _ => true) true Tryz.f17.params.toList args.toList ds p := hA0
 rw [Tryz.params17] at hA hval
 obtain ⟨v0, v1, v2, d0, d1, d2, p0, p1, p2, rfl, rfl, rfl, h0, h1, h2⟩ := trodAll_three hA
 obtain ⟨rfl, rfl⟩ := trodVars_none hV
 obtain ⟨x0, r0, _⟩ := arg_book (hval 0 24 v0 rfl rfl) h0
 obtain ⟨x1, r1, _⟩ := arg_int (hval 1 3 v1 rfl rfl) h1
 obtain ⟨x2, r2, _⟩ := arg_version (hval 2 32 v2 rfl rfl) h2
 refine (law_calls (c_cueLeast x0 x1 x2) (by simp only [VRels, and_true]; exact ⟨r0, r1, r2⟩)).mono ?_
 rintro e W' ⟨rfl, hk⟩
 exact ⟨_, rfl, law_post laidOut (by kernel_rfl) (by kernel_rfl) (by kernel_rfl) hW' rfl rfl hk⟩
theorem cueLeast_named : Tryz.pinned.checked.prog.funcNamed Rows.cueLeastRow.func = some 17 := by kernel_rfl
theorem cueLeast_inst : Tryz.f17.isInstance Tryz.pinned.checked.prog Rows.cueLeastRow.origin Rows.cueLeastRow.targs := of_decide_eq_true (by kernel_rfl)
theorem cueLeast_wrap : Tryz.f17.isWrapper Tryz.pinned.checked.prog Rows.cueLeastRow.wrapper Rows.cueLeastRow.mainSum := by unfold Func.isWrapper; first | (rw [if_pos (by decide +kernel)]; kernel_rfl) | (rw [if_neg (by decide +kernel)]; exact ⟨rfl, rfl⟩)
set_option maxHeartbeats 8000000 in
theorem cueLeast_closed : joinedFacts Tryz.pinned.checked.prog 17 Tryz.f17 Rows.cueLeastSpec Rows.cueLeastRow = true := by
 unfold joinedFacts
 refine and_t (and_t (and_t (and_t (and_t (and_t (and_t (and_t (and_t (and_t (and_t (and_t (and_t (and_t (and_t (and_t (and_t (and_t (and_t (and_t (and_t (and_t (and_t (and_t (and_t (and_t (and_t (and_t (and_t (and_t (and_t ?_ ?_) ?_) ?_) ?_) ?_) ?_) ?_) ?_) ?_) ?_) ?_) ?_) ?_) ?_) ?_) ?_) ?_) ?_) ?_) ?_) ?_) ?_) ?_) ?_) ?_) ?_) ?_) ?_) ?_) ?_) ?_
 ·as_aux_lemma => kernel_rfl
 ·as_aux_lemma => kernel_rfl
 ·as_aux_lemma => kernel_rfl
 ·as_aux_lemma => kernel_rfl
 ·as_aux_lemma => kernel_rfl
 ·as_aux_lemma => kernel_rfl
 ·as_aux_lemma => kernel_rfl
 ·as_aux_lemma => kernel_rfl
 ·as_aux_lemma => kernel_rfl
 ·as_aux_lemma => kernel_rfl
 ·as_aux_lemma => kernel_rfl
 ·as_aux_lemma => kernel_rfl
 ·as_aux_lemma => kernel_rfl
 ·as_aux_lemma => kernel_rfl
 ·as_aux_lemma => kernel_rfl
 ·as_aux_lemma => kernel_rfl
 ·as_aux_lemma => kernel_rfl
 ·as_aux_lemma => kernel_rfl
 ·as_aux_lemma => kernel_rfl
 ·as_aux_lemma => kernel_rfl
 ·as_aux_lemma => kernel_rfl
 ·as_aux_lemma => kernel_rfl
 ·as_aux_lemma => kernel_rfl
 ·as_aux_lemma => kernel_rfl
 ·as_aux_lemma => kernel_rfl
 ·as_aux_lemma => kernel_rfl
 ·as_aux_lemma => kernel_rfl
 ·as_aux_lemma => kernel_rfl
 ·as_aux_lemma => kernel_rfl
 ·as_aux_lemma => kernel_rfl
 ·as_aux_lemma => kernel_rfl
 ·as_aux_lemma => kernel_rfl
theorem cueLeast_holds : Rows.CueLeastSaid :=
 OpenClaim.holds_of_wide 17 Tryz.f17 rfl rfl rfl rfl rfl rfl rfl ⟨rfl, rfl, rfl, rfl, rfl⟩ rfl rfl rfl rfl rfl cueLeast_named Tryz.func17 cueLeast_closed cueLeast_inst cueLeast_wrap
  (fun os started H enc _ => cueLeast_lifted os started H enc)
set_option maxHeartbeats 8000000 in
theorem cueLeast_card : Rows.CueLeastCardSaid :=
 Claim7.holds_tied_plain_at .later [] [.data, .data, .data, .data, .pinned] true (true, "d200c2f9484011b2fecf6d987098eee6f4d6857560912b686a09e1298a9b974d") true cueLeast_holds (fun _ h => by cases h) (by as_aux_lemma => kernel_rfl) (fun _ h => by cases h) cueLeast_row_tie rfl ⟨rfl, rfl⟩ (by as_aux_lemma => kernel_rfl) rfl
  (fun f fn hf hfn => by
   obtain rfl : f = 17 := Option.some.inj (cueLeast_named.symm.trans hf) |>.symm
   obtain rfl : fn = Tryz.f17 := (Option.some.inj (Tryz.func17.symm.trans hfn)).symm
   exact ⟨by as_aux_lemma => kernel_rfl, fun j t ht => by
    rw [Tryz.params17] at ht
    have hm : t ∈ [24, 3, 32] := by simpa using Array.mem_of_getElem? ht
    have hall : ([24, 3, 32].all fun u => !Tryz.prog.wantsStandIn u) = true := by kernel_rfl
    exact (show Tryz.prog.wantsStandIn t = false by simpa using List.all_eq_true.1 hall t hm)⟩)
  (by as_aux_lemma => kernel_rfl)
end Go.Proofs.YtdhdaadoehbopaaGreatDoor

/-
  Whether a list settles which version it is, by Tell, for books and lists as told at each, in every heap. Conditions: at each theorem.
-/
import Derived.Test.YtdhdaadoehbopaaGreatDoorCt
import Derived.Test.YtdhdaadoehbopaaGreatDoorCv
import Derived.Test.YtdhdaadoehbopaaGreatDoorCc

namespace Go.Vm
open Go.Proofs
set_option maxHeartbeats 4000000 in
set_option maxRecDepth 100000 in
theorem c_apart {b : Book} (hlb : BLen b) (hB : BOk b) {L : List Int} (hL : LeftOk b.vs L) {l : List Nat} (hl : OkL b.cues.toNat l) (hlen : l.length < 1000000) (H : List Blk) :
  ACall Tryz.prog 55 [eBook b, eInts L, eInts (cuesI l)] H (.ret (.lit (.bool (decide (specS b.vs b.cues.toNat L l))))) H := by
 have hbc := hB.1.1
 have hcl := cuesI_length l
 have hfew := hL.few
 unfold inI at hbc
 refine fn_rule (m := false) (fn := Tryz.f55) (c := (Tryz.f55.body).getD .skip) mixed (by kernel_rfl) (by kernel_rfl) (of_decide_eq_true (by kernel_rfl)) ?_ ?_ ?_ H
 ·exact ⟨under_eBook 0 _, under_eInts 0 _, under_eInts 0 _, trivial⟩
 ·trivial
 ·refine LoopG.at (n0 := 1) rfl (loop_up mixed (m := false) (fun r => [(1, eInts L), (2, eInts (cuesI l)), (3, .ptr 0 0), (7, n' r)]) (fun _ => [(0, bBox b)]) (fun r => ∀ i, i < r → ∀ k, k < i → ¬ (plI b.vs (lAt L i) l = plI b.vs (lAt L k) l ∧ dT (vAt b.vs (lAt L i).toNat) (vAt b.vs (lAt L k).toNat) b.cues.toNat 0 0 ≠ [])) L.length 1 (leb rfl) (fun i h1 => by omega) ?_ ?_ ?_)
  ·exact ⟨⟨_, rfl, Weak.refl _ _, under_eInts _ _⟩, ⟨_, rfl, Weak.refl _ _, under_eInts _ _⟩, wp rfl (ltb rfl), wp rfl trivial, trivial⟩
  ·exact ⟨bk rfl rfl, trivial⟩
  ·intro r hr hI
   refine If.mk (fun h1 => ?_) (fun h1 => ?_)
   ·refine ifY ?_
    have hr' : r < L.length := by omega
    have hm0 := hL.mem _ (lAt_mem hr')
    have hV := hB.2 _ (vAt_in (show (lAt L r).toNat < b.vs.length by omega))
    refine LoopG.at (n0 := 1) rfl (loop_up mixed (m := false) (fun q => [(1, eInts L), (2, eInts (cuesI l)), (3, .ptr 0 0), (7, n' r), (8, n' q)]) (fun _ => [(0, bBox b)]) (fun q => ∀ k, k < q → ¬ (plI b.vs (lAt L r) l = plI b.vs (lAt L k) l ∧ dT (vAt b.vs (lAt L r).toNat) (vAt b.vs (lAt L k).toNat) b.cues.toNat 0 0 ≠ [])) r 1 (leb rfl) (fun k h => by omega) ?_ ?_ ?_)
    ·exact ⟨⟨_, rfl, Weak.refl _ _, under_eInts _ _⟩, ⟨_, rfl, Weak.refl _ _, under_eInts _ _⟩, wp rfl (ltb rfl), wp rfl trivial, wp rfl trivial, trivial⟩
    ·exact ⟨bk rfl rfl, trivial⟩
    ·intro q hq hJ
     refine If.mk (fun h2 => ?_) (fun h2 => ?_)
     ·refine ifY ?_
      have hq' : q < L.length := by omega
      have hm1 := hL.mem _ (lAt_mem hq')
      have hW := hB.2 _ (vAt_in (show (lAt L q).toNat < b.vs.length by omega))
      have hc := fun H => c_tellD (i := lAt L r) (j := lAt L q) hlb hB (by unfold inI; omega) (by unfold inI; omega) (vAt_at (by omega)) (vAt_at (by omega)) H
      refine Ex.mk _ (jx_ints (r := r) rfl (lAt_get hr')) ?_
      refine Ex.mk _ rfl ?_
      refine Ex.mk _ (jx_ints (r := q) rfl (lAt_get hq')) ?_
      refine Ex.mk _ rfl ?_
      cases hD : dT (vAt b.vs (lAt L r).toNat) (vAt b.vs (lAt L q).toNat) b.cues.toNat 0 0 with
      | nil =>
       rw [hD] at hc
       refine CallG.pure _ ((show ∀ H, ACall Tryz.prog 50 [eBook b, n' (lAt L r), n' (lAt L q)] H (.ret (tellV none)) H from hc)) ?_
       refine If.mk (fun h => absurd h (by decide)) (fun _ => ?_)
       refine ifN ?_
       refine Side.mk (fits64 (by omega)) ?_
       refine ⟨leb rfl, rfl, by omega, fun k hk => ?_, ⟨⟨_, rfl, Weak.refl _ _, under_eInts _ _⟩, ⟨_, rfl, Weak.refl _ _, under_eInts _ _⟩, wp rfl (ltb rfl), wp rfl trivial, wp rfl trivial, trivial⟩, ⟨bk rfl rfl, trivial⟩, trivial⟩
       by_cases hkq : k = q
       ·subst hkq; exact fun h => h.2 hD
       ·exact hJ k (by omega)
      | cons c D =>
       rw [hD] at hc
       have hnn : dT (vAt b.vs (lAt L r).toNat) (vAt b.vs (lAt L q).toNat) b.cues.toNat 0 0 ≠ [] := by rw [hD]; simp
       refine CallG.pure _ ((show ∀ H, ACall Tryz.prog 50 [eBook b, n' (lAt L r), n' (lAt L q)] H (.ret (tellV (some (c :: D)))) H from hc)) ?_
       refine If.mk (fun _ => ?_) (fun h => absurd (by decide) h)
       refine Ex.mk _ (jx_ints (r := r) rfl (lAt_get hr')) ?_
       refine Ex.mk _ rfl ?_
       refine Ex.mk _ (jx_versions (r := (lAt L r).toNat) (by omega) (vAt_at (by omega))) ?_
       refine Ex.mk _ rfl ?_
       refine CallG.pure _ (c_refPlays hV.vers.1 hV.vers.2 (cuesI_ok hl) (by omega)) ?_
       refine Ex.mk _ (jx_ints (r := q) rfl (lAt_get hq')) ?_
       refine Ex.mk _ rfl ?_
       refine Ex.mk _ (jx_versions (r := (lAt L q).toNat) (by omega) (vAt_at (by omega))) ?_
       refine Ex.mk _ rfl ?_
       refine CallG.pure _ (c_refPlays hW.vers.1 hW.vers.2 (cuesI_ok hl) (by omega)) ?_
       refine CallG.bool (c_same _ _ (by rw [plays_length]; omega)) (fun h3 => ?_) (fun h3 => ?_)
       ·refine ifY ?_
        exact ⟨leb rfl, leb rfl, .inl rfl, FinG.no rfl rfl fun h => h r hr' q (by omega) ⟨h3, hnn⟩⟩
       ·refine ifN ?_
        refine Side.mk (fits64 (by omega)) ?_
        refine ⟨leb rfl, rfl, by omega, fun k hk => ?_, ⟨⟨_, rfl, Weak.refl _ _, under_eInts _ _⟩, ⟨_, rfl, Weak.refl _ _, under_eInts _ _⟩, wp rfl (ltb rfl), wp rfl trivial, wp rfl trivial, trivial⟩, ⟨bk rfl rfl, trivial⟩, trivial⟩
        by_cases hkq : k = q
        ·subst hkq; exact fun h => h3 h.1
        ·exact hJ k (by omega)
     ·refine ifN ?_
      have e : q = r := by omega
      subst e
      refine ⟨leb rfl, ?_⟩
      refine Side.mk (fits64 (by omega)) ?_
      refine ⟨leb rfl, rfl, by omega, fun i hi => ?_, ⟨⟨_, rfl, Weak.refl _ _, under_eInts _ _⟩, ⟨_, rfl, Weak.refl _ _, under_eInts _ _⟩, wp rfl (ltb rfl), wp rfl trivial, trivial⟩, ⟨bk rfl rfl, trivial⟩, trivial⟩
      by_cases hiq : i = q
      ·subst hiq; exact hJ
      ·exact hI i (by omega)
   ·refine ifN ?_
    exact ⟨leb rfl, .inl rfl, FinG.yes rfl rfl fun i h2 => hI i (by omega)⟩
end Go.Vm

/-
  The law CueSettled of package kelirlaw04 returns true for every input, and each argument reads afterwards as it read before: the tied card. Conditions: what the row lists of package-level variables, tied to the text of the program.
-/
import Derived.Test.YtdhdaadoehbopaaGreatDoorCy
import Derived.Test.YtdhdaadoehbopaaGreatDoorCueSettles
import Derived.Test.YtdhdaadoehbopaaGreatDoorCo
import Derived.Test.YtdhdaadoehbopaaGreatDoorCb
import Derived.Test.YtdhdaadoehbopaaGreatDoorCh
import Derived.Test.YtdhdaadoehbopaaGreatDoorVr
import Derived.Test.YtdhdaadoehbopaaGreatDoorRows
import Derived.Test.YtdhdaadoehbopaaGreatDoorTie
import Derived.Test.YtdhdaadoehbopaaGreatDoorCards
import Derived.SevenTiedAt

namespace Go.Vm
open Go.Proofs
section
variable {vs : List Vers} {K : Nat} {L : List Int} (hv : ∀ v ∈ vs, VersOk v K) (hv0 : ∀ v ∈ vs, 0 < v.length) (hL : LeftOk vs L)
theorem specS_few (h : L.length ≤ 1) (u : List Nat) : specS vs K L u := fun i hi k hk => by omega
theorem specS_two (h : L.length = 2) {u : List Nat} : specS vs K L u ↔ ¬ (plI vs (lAt L 1) u = plI vs (lAt L 0) u ∧ dT (vAt vs (lAt L 1).toNat) (vAt vs (lAt L 0).toNat) K 0 0 ≠ []) := by
 constructor
 ·intro hs
  exact hs 1 (by omega) 0 (by omega)
 ·intro hs i hi k hk
  obtain rfl : i = 1 := by omega
  obtain rfl : k = 0 := by omega
  exact hs
include hv hv0 hL in
theorem left_ok {i : Nat} (h : i < L.length) : VersOk (vAt vs (lAt L i).toNat) K ∧ 0 < (vAt vs (lAt L i).toNat).length := by
 have hm := hL.mem _ (lAt_mem h)
 have hvm := vAt_in (vs := vs) (a := (lAt L i).toNat) (by omega)
 exact ⟨hv _ hvm, hv0 _ hvm⟩
include hv hv0 hL in
theorem two_nil (h : L.length = 2) : dT (vAt vs (lAt L 1).toNat) (vAt vs (lAt L 0).toNat) K 0 0 = [] ↔ dT (vAt vs (lAt L 0).toNat) (vAt vs (lAt L 1).toNat) K 0 0 = [] := by
 obtain ⟨g1, g2⟩ := left_ok hv hv0 hL (i := 0) (by omega)
 obtain ⟨g3, g4⟩ := left_ok hv hv0 hL (i := 1) (by omega)
 obtain ⟨a1, a2⟩ := dT_ok g3 g1 g4 g2
 obtain ⟨b1, b2⟩ := dT_ok g1 g3 g2 g4
 constructor
 ·intro e
  exact Classical.byContradiction fun hne => a2 e _ (b1 hne).1 fun h => (b1 hne).2.1 h.symm
 ·intro e
  exact Classical.byContradiction fun hne => b2 e _ (a1 hne).1 fun h => (a1 hne).2.1 h.symm
include hv hv0 hL in
theorem two_spec (h : L.length = 2) {u : List Nat} (hne : dT (vAt vs (lAt L 0).toNat) (vAt vs (lAt L 1).toNat) K 0 0 ≠ []) : specS vs K L u ↔ Tells (vAt vs (lAt L 0).toNat) (vAt vs (lAt L 1).toNat) 0 0 u := by
 rw [specS_two h]
 have hn := fun e => hne ((two_nil hv hv0 hL h).1 e)
 constructor
 ·intro h1 h2
  exact h1 ⟨h2.symm, hn⟩
 ·intro h1 h2
  exact h1 h2.1.symm
include hv hv0 hL in
theorem settled_two (h : L.length = 2) : ∃ u, OkL K u ∧ specS vs K L u := by
 by_cases hD : dT (vAt vs (lAt L 0).toNat) (vAt vs (lAt L 1).toNat) K 0 0 = []
 ·refine ⟨[], (fun x hx => (by cases hx)), (specS_two h).2 fun h1 => h1.2 ((two_nil hv hv0 hL h).2 hD)⟩
 ·obtain ⟨g1, g2⟩ := left_ok hv hv0 hL (i := 0) (by omega)
  obtain ⟨g3, g4⟩ := left_ok hv hv0 hL (i := 1) (by omega)
  obtain ⟨b1, b2⟩ := dT_ok g1 g3 g2 g4
  exact ⟨_, (b1 hD).1, (two_spec hv hv0 hL h hD).2 (b1 hD).2.1⟩
theorem LE.nil {m : List Nat} (h : LE m []) : m = [] := by
 rcases h with h | h
 ·rcases h with h | ⟨h1, h2⟩
  ·simp at h
  ·exact List.length_eq_zero_iff.1 h1
 ·exact h
include hv hv0 hL in
theorem settled_tell (h : L.length = 2) {m : List Nat} (hm : OkL K m) (hd : specS vs K L m) (hle : ∀ u, OkL K u → specS vs K L u → LE m u) : dT (vAt vs (lAt L 0).toNat) (vAt vs (lAt L 1).toNat) K 0 0 = m := by
 by_cases hD : dT (vAt vs (lAt L 0).toNat) (vAt vs (lAt L 1).toNat) K 0 0 = []
 ·rw [hD]
  exact (LE.nil (hle [] (fun x hx => by cases hx) ((specS_two h).2 fun h1 => h1.2 ((two_nil hv hv0 hL h).2 hD)))).symm
 ·obtain ⟨g1, g2⟩ := left_ok hv hv0 hL (i := 0) (by omega)
  obtain ⟨g3, g4⟩ := left_ok hv hv0 hL (i := 1) (by omega)
  obtain ⟨b1, b2⟩ := dT_ok g1 g3 g2 g4
  obtain ⟨k1, k2, k3⟩ := b1 hD
  exact LE.antisymm (k3 m hm ((two_spec hv hv0 hL h hD).1 hd)) (hle _ k1 ((two_spec hv hv0 hL h hD).2 k2))
end
set_option maxHeartbeats 8000000 in
set_option maxRecDepth 100000 in
theorem c_cueSettled (b : Book) (evs : List Evening) (cues : List Int) (H : List Blk) : ACall Tryz.prog 11 [eBook b, eEvenings evs, eInts cues] H (.ret (.lit (.bool true))) H := by
 refine fn_rule (m := false) (fn := Tryz.f11) (c := (Tryz.f11.body).getD .skip) mixed (by kernel_rfl) (by kernel_rfl) (of_decide_eq_true (by kernel_rfl)) ?_ ?_ ?_ H
 ·exact ⟨under_eBook 0 _, under_eEvenings 0 _, under_eInts 0 _, trivial⟩
 ·trivial
 ·refine CallG.bool (c_right b evs) (fun hR => ?_) (fun _ => ?_)
  ·obtain ⟨⟨⟨hsh, _⟩, hB⟩, hE⟩ := hR
   refine If.mk (fun h4 => ?_) (fun h4 => ?_)
   ·refine ifY ?_
    refine CallG.pure _ (known_call) ?_
    exact ⟨.inl rfl, FinG.mk _ rfl rfl rfl⟩
   ·refine CallG.bool (c_list hB.fit _ (by omega)) (fun hO => ?_) (fun _ => ?_)
    ·refine ifN ?_
     have hbc := hB.1.1
     have hvn := hB.1.2.2
     unfold inI at hbc hvn
     have hRl := remL_length b.vs evs b.vs.length
     have hVL := remL_versL b evs
     have hv : ∀ v ∈ b.vs, VersOk v b.cues.toNat := fun v hv => (hB.2 v hv).vers.1
     have hv0 : ∀ v ∈ b.vs, 0 < v.length := fun v hv => (hB.2 v hv).vers.2
     refine CallG.pure _ (c_Remains_ok hsh.len hB hE) ?_
     by_cases hne : remL b.vs evs b.vs.length = []
     ·refine CallG.pure _ (c_Settle_none hsh.len hB hE hne) ?_
      refine If.mk (fun _ => ?_) (fun h => absurd (by decide) h)
      refine If.mk (fun h => absurd h (by omega)) (fun _ => ?_)
      refine CallG.bool (c_versions hB.fit _ (by omega)) (fun _ => ?_) (fun x => absurd hVL x)
      rw [hne]
      refine If.mk (fun _ => ?_) (fun h => absurd (by decide) h)
      refine If.mk (fun _ => ?_) (fun h => absurd (by decide) h)
      refine ifN ?_
      refine If.mk (fun _ => ?_) (fun h => absurd (by decide) h)
      refine ifY ?_
      refine CallG.pure _ (known_call) ?_
      exact ⟨.inl rfl, FinG.mk _ rfl rfl rfl⟩
     ·obtain ⟨o, hF, hc⟩ := c_Settle hsh.len hB hE hne
      have hL := remL_left (b := b) (by omega) evs
      have hj : ∀ l, o = some l → l.length < 1792 := fun l h => by
       subst h
       exact settle_short hv hv0 (fun v hv => by have := (hB.2 v hv).2; unfold inI at this; omega) hL hF
      obtain ⟨u, hu, hue⟩ := ints_cues (hO.cues (by omega)).1
      have hul := cuesI_length u
      rw [hue] at hul
      have hdn : ∀ l, OkL b.cues.toNat l → (doneS b.vs b.cues.toNat (runB (nextP b.vs) (posRun b.vs (remL b.vs evs b.vs.length) []) l) ↔ specS b.vs b.cues.toNat (remL b.vs evs b.vs.length) l) := fun l hl => by
       rw [run_pos hv hv0 hL.nat l hl]
       exact doneS_iff hv hv0 (by omega) hL
      have htg := fun H => c_apart hsh.len hB hL hu (by omega) H
      rw [hue] at htg
      cases o with
      | none =>
       have hno : ¬ specS b.vs b.cues.toNat (remL b.vs evs b.vs.length) u := fun h => hF.no rfl u hu ((hdn u hu).2 h)
       have hmany : 2 < (remL b.vs evs b.vs.length).length := by
        rcases Nat.lt_or_ge 2 (remL b.vs evs b.vs.length).length with h | h
        ·exact h
        ·exfalso
         by_cases h2 : (remL b.vs evs b.vs.length).length = 2
         ·obtain ⟨w, hw1, hw2⟩ := settled_two hv hv0 hL h2
          exact hF.no rfl w hw1 ((hdn w hw1).2 hw2)
         ·exact hno (specS_few (by omega) u)
       rw [decide_eq_false hno] at htg
       refine CallG.pure _ (hc) ?_
       refine If.mk (fun _ => ?_) (fun h => absurd (by decide) h)
       refine If.mk (fun h => absurd h (by omega)) (fun _ => ?_)
       refine CallG.bool (c_versions hB.fit _ (by omega)) (fun _ => ?_) (fun x => absurd hVL x)
       generalize remL b.vs evs b.vs.length = L at *
       refine If.mk (fun h => absurd h (by decide)) (fun _ => ?_)
       refine If.mk (fun h => absurd (List.length_eq_zero_iff.1 (by omega)) hne) (fun _ => ?_)
       refine ifN ?_
       refine If.mk (fun h => absurd h (by decide)) (fun _ => ?_)
       refine ifN ?_
       refine CallG.pure _ (htg) ?_
       refine If.mk (fun h => absurd h (by decide)) (fun _ => ?_)
       refine ifY ?_
       refine If.mk (fun _ => ?_) (fun h => absurd (by decide) h)
       refine If.mk (fun _ => ?_) (fun h => absurd (by omega) h)
       refine CallG.pure _ (known_call) ?_
       exact ⟨.inl rfl, FinG.mk _ rfl rfl rfl⟩
      | some m =>
       have hml := hj m rfl
       have hcm := cuesI_length m
       obtain ⟨hmo, hmd, hle⟩ := hF.yes m rfl
       have hyes := (hdn m hmo).1 hmd
       have hle' : ∀ u, OkL b.cues.toNat u → specS b.vs b.cues.toNat (remL b.vs evs b.vs.length) u → LE m u := fun w h1 h2 => hle w h1 ((hdn w h1).2 h2)
       have htm := fun H => c_apart hsh.len hB hL hmo (by omega) H
       rw [decide_eq_true hyes] at htm
       have hLm : LCues b (cuesI m) := fun c hc => by
        have := cuesI_ok hmo c hc
        unfold inI; omega
       refine CallG.pure _ (hc) ?_
       refine If.mk (fun _ => ?_) (fun h => absurd (by decide) h)
       refine If.mk (fun h => absurd h (by omega)) (fun _ => ?_)
       refine CallG.bool (c_versions hB.fit _ (by omega)) (fun _ => ?_) (fun x => absurd hVL x)
       generalize remL b.vs evs b.vs.length = L at *
       refine If.mk (fun h => absurd h (by decide)) (fun _ => ?_)
       refine If.mk (fun h => absurd (List.length_eq_zero_iff.1 (by omega)) hne) (fun _ => ?_)
       refine ifN ?_
       refine If.mk (fun h => absurd h (by decide)) (fun _ => ?_)
       refine ifN ?_
       by_cases hsu : specS b.vs b.cues.toNat L u
       ·rw [decide_eq_true hsu] at htg
        obtain ⟨k1, k2⟩ := le_ints (hle' u hu hsu)
        rw [hue] at k1 k2
        refine CallG.pure _ (htg) ?_
        refine If.mk (fun _ => ?_) (fun h => absurd (by decide) h)
        refine ifN ?_
        refine If.mk (fun h => absurd h (by omega)) (fun _ => ?_)
        refine CallG.bool (c_cues hB.fit (cuesI m) (by omega)) (fun _ => ?_) (fun x => absurd hLm x)
        refine CallG.pure _ (htm) ?_
        refine If.mk (fun h => absurd h (by omega)) (fun _ => ?_)
        refine If.mk (fun h => ?_) (fun _ => ?_)
        ·refine CallG.bool (c_before _ _ (by omega)) (fun h9 => absurd h9 (k2 (by omega))) (fun _ => ?_)
         refine ifN ?_
         refine If.mk (fun h2 => ?_) (fun h2 => ?_)
         ·refine ifY ?_
          have h2' : L.length = 2 := by have : ((L.length : Nat) : Int) = 2 := h2; omega
          have hD := settled_tell hv hv0 hL h2' hmo hyes hle'
          have hm0 := hL.mem _ (lAt_mem (L := L) (i := 0) (by omega))
          have hm1 := hL.mem _ (lAt_mem (L := L) (i := 1) (by omega))
          have ht := fun H => c_tellD (i := lAt L 0) (j := lAt L 1) hsh.len hB (by unfold inI; omega) (by unfold inI; omega) (vAt_at (by omega)) (vAt_at (by omega)) H
          rw [hD] at ht
          refine Ex.mk _ (jx_ints (r := 0) rfl (lAt_get (by omega))) ?_
          refine Ex.mk _ rfl ?_
          refine Ex.mk _ (jx_ints (r := 1) rfl (lAt_get (by omega))) ?_
          refine Ex.mk _ rfl ?_
          cases m with
          | nil =>
           refine CallG.pure _ ((show ∀ H, ACall Tryz.prog 50 [eBook b, n' (lAt L 0), n' (lAt L 1)] H (.ret (tellV none)) H from ht)) ?_
           refine If.mk (fun h => absurd h (by decide)) (fun _ => ?_)
           refine If.mk (fun _ => ?_) (fun h => absurd (by decide) h)
           refine CallG.wbool (.cons (fun H => wk_nil H) (.cons (fun H => WeakH.refl _ H) .nil)) (c_same [] [] (by simp)) (fun _ => ?_) (fun h => absurd rfl h)
           refine CallG.pure _ (known_call) ?_
           exact ⟨.inl rfl, FinG.mk _ rfl rfl rfl⟩
          | cons c D =>
           refine CallG.pure _ ((show ∀ H, ACall Tryz.prog 50 [eBook b, n' (lAt L 0), n' (lAt L 1)] H (.ret (tellV (some (c :: D)))) H from ht)) ?_
           refine If.mk (fun _ => ?_) (fun h => absurd (by decide) h)
           refine CallG.bool (c_same (cuesI (c :: D)) (cuesI (c :: D)) (by omega)) (fun _ => ?_) (fun h => absurd rfl h)
           refine CallG.pure _ (known_call) ?_
           exact ⟨.inl rfl, FinG.mk _ rfl rfl rfl⟩
         ·refine ifN ?_
          refine If.mk (fun h1 => ?_) (fun h1 => ?_)
          ·have h1' : L.length ≤ 1 := by have : ((L.length : Nat) : Int) = 1 := h1; omega
           obtain rfl := LE.nil (hle' [] (fun x hx => (by cases hx)) (specS_few h1' []))
           refine If.mk (fun _ => ?_) (fun h => absurd (by decide) h)
           refine CallG.pure _ (known_call) ?_
           exact ⟨.inl rfl, FinG.mk _ rfl rfl rfl⟩
          ·refine CallG.pure _ (known_call) ?_
           exact ⟨.inl rfl, FinG.mk _ rfl rfl rfl⟩
        ·refine ifN ?_
         refine If.mk (fun h2 => ?_) (fun h2 => ?_)
         ·refine ifY ?_
          have h2' : L.length = 2 := by have : ((L.length : Nat) : Int) = 2 := h2; omega
          have hD := settled_tell hv hv0 hL h2' hmo hyes hle'
          have hm0 := hL.mem _ (lAt_mem (L := L) (i := 0) (by omega))
          have hm1 := hL.mem _ (lAt_mem (L := L) (i := 1) (by omega))
          have ht := fun H => c_tellD (i := lAt L 0) (j := lAt L 1) hsh.len hB (by unfold inI; omega) (by unfold inI; omega) (vAt_at (by omega)) (vAt_at (by omega)) H
          rw [hD] at ht
          refine Ex.mk _ (jx_ints (r := 0) rfl (lAt_get (by omega))) ?_
          refine Ex.mk _ rfl ?_
          refine Ex.mk _ (jx_ints (r := 1) rfl (lAt_get (by omega))) ?_
          refine Ex.mk _ rfl ?_
          cases m with
          | nil =>
           refine CallG.pure _ ((show ∀ H, ACall Tryz.prog 50 [eBook b, n' (lAt L 0), n' (lAt L 1)] H (.ret (tellV none)) H from ht)) ?_
           refine If.mk (fun h => absurd h (by decide)) (fun _ => ?_)
           refine If.mk (fun _ => ?_) (fun h => absurd (by decide) h)
           refine CallG.wbool (.cons (fun H => wk_nil H) (.cons (fun H => WeakH.refl _ H) .nil)) (c_same [] [] (by simp)) (fun _ => ?_) (fun h => absurd rfl h)
           refine CallG.pure _ (known_call) ?_
           exact ⟨.inl rfl, FinG.mk _ rfl rfl rfl⟩
          | cons c D =>
           refine CallG.pure _ ((show ∀ H, ACall Tryz.prog 50 [eBook b, n' (lAt L 0), n' (lAt L 1)] H (.ret (tellV (some (c :: D)))) H from ht)) ?_
           refine If.mk (fun _ => ?_) (fun h => absurd (by decide) h)
           refine CallG.bool (c_same (cuesI (c :: D)) (cuesI (c :: D)) (by omega)) (fun _ => ?_) (fun h => absurd rfl h)
           refine CallG.pure _ (known_call) ?_
           exact ⟨.inl rfl, FinG.mk _ rfl rfl rfl⟩
         ·refine ifN ?_
          refine If.mk (fun h1 => ?_) (fun h1 => ?_)
          ·have h1' : L.length ≤ 1 := by have : ((L.length : Nat) : Int) = 1 := h1; omega
           obtain rfl := LE.nil (hle' [] (fun x hx => (by cases hx)) (specS_few h1' []))
           refine If.mk (fun _ => ?_) (fun h => absurd (by decide) h)
           refine CallG.pure _ (known_call) ?_
           exact ⟨.inl rfl, FinG.mk _ rfl rfl rfl⟩
          ·refine CallG.pure _ (known_call) ?_
           exact ⟨.inl rfl, FinG.mk _ rfl rfl rfl⟩
       ·rw [decide_eq_false hsu] at htg
        refine CallG.pure _ (htg) ?_
        refine If.mk (fun _ => ?_) (fun h => absurd (by decide) h)
        refine ifN ?_
        refine If.mk (fun h => absurd h (by omega)) (fun _ => ?_)
        refine CallG.bool (c_cues hB.fit (cuesI m) (by omega)) (fun _ => ?_) (fun x => absurd hLm x)
        refine CallG.pure _ (htm) ?_
        refine ifN ?_
        refine If.mk (fun h2 => ?_) (fun h2 => ?_)
        ·refine ifY ?_
         have h2' : L.length = 2 := by have : ((L.length : Nat) : Int) = 2 := h2; omega
         have hD := settled_tell hv hv0 hL h2' hmo hyes hle'
         have hm0 := hL.mem _ (lAt_mem (L := L) (i := 0) (by omega))
         have hm1 := hL.mem _ (lAt_mem (L := L) (i := 1) (by omega))
         have ht := fun H => c_tellD (i := lAt L 0) (j := lAt L 1) hsh.len hB (by unfold inI; omega) (by unfold inI; omega) (vAt_at (by omega)) (vAt_at (by omega)) H
         rw [hD] at ht
         refine Ex.mk _ (jx_ints (r := 0) rfl (lAt_get (by omega))) ?_
         refine Ex.mk _ rfl ?_
         refine Ex.mk _ (jx_ints (r := 1) rfl (lAt_get (by omega))) ?_
         refine Ex.mk _ rfl ?_
         cases m with
         | nil =>
          refine CallG.pure _ ((show ∀ H, ACall Tryz.prog 50 [eBook b, n' (lAt L 0), n' (lAt L 1)] H (.ret (tellV none)) H from ht)) ?_
          refine If.mk (fun h => absurd h (by decide)) (fun _ => ?_)
          refine If.mk (fun _ => ?_) (fun h => absurd (by decide) h)
          refine CallG.wbool (.cons (fun H => wk_nil H) (.cons (fun H => WeakH.refl _ H) .nil)) (c_same [] [] (by simp)) (fun _ => ?_) (fun h => absurd rfl h)
          refine CallG.pure _ (known_call) ?_
          exact ⟨.inl rfl, FinG.mk _ rfl rfl rfl⟩
         | cons c D =>
          refine CallG.pure _ ((show ∀ H, ACall Tryz.prog 50 [eBook b, n' (lAt L 0), n' (lAt L 1)] H (.ret (tellV (some (c :: D)))) H from ht)) ?_
          refine If.mk (fun _ => ?_) (fun h => absurd (by decide) h)
          refine CallG.bool (c_same (cuesI (c :: D)) (cuesI (c :: D)) (by omega)) (fun _ => ?_) (fun h => absurd rfl h)
          refine CallG.pure _ (known_call) ?_
          exact ⟨.inl rfl, FinG.mk _ rfl rfl rfl⟩
        ·refine ifN ?_
         refine If.mk (fun h1 => ?_) (fun h1 => ?_)
         ·have h1' : L.length ≤ 1 := by have : ((L.length : Nat) : Int) = 1 := h1; omega
          obtain rfl := LE.nil (hle' [] (fun x hx => (by cases hx)) (specS_few h1' []))
          refine If.mk (fun _ => ?_) (fun h => absurd (by decide) h)
          refine CallG.pure _ (known_call) ?_
          exact ⟨.inl rfl, FinG.mk _ rfl rfl rfl⟩
         ·refine CallG.pure _ (known_call) ?_
          exact ⟨.inl rfl, FinG.mk _ rfl rfl rfl⟩
    ·refine ifY ?_
     refine CallG.pure _ (known_call) ?_
     exact ⟨.inl rfl, FinG.mk _ rfl rfl rfl⟩
  ·refine ifY ?_
   refine CallG.pure _ (known_call) ?_
   exact ⟨.inl rfl, FinG.mk _ rfl rfl rfl⟩
end Go.Vm

namespace Go.Proofs.YtdhdaadoehbopaaGreatDoor
open Go.Vm Go.ChangeShapes Go.WideShapes Go.ChangeAt Go.RowKit
set_option maxHeartbeats 8000000 in
set_option maxRecDepth 100000 in
theorem cueSettled_lifted (os : Os) (started : os.Started) (H : Type) (enc : TypeId × Value → H) :
  ReturnsInHanded {} Tryz.checked os 11 .any (fun w args => (Rows.cueSettledSpec.pre enc Tryz.prog Tryz.f11 Rows.cueSettledRow.domain false w args ∧ laidMetH Tryz.prog Rows.cueSettledRow.laid w) ∧ sizedMet enc Tryz.prog Tryz.f11 (OpenSpec.ofChange Rows.cueSettledSpec) false w args)
   (Rows.cueSettledSpec.post enc Tryz.prog Tryz.f11 false true false false) := by
 refine returnsInHanded_of_change_and (C := Tryz.checked) (X := fun w _ => laidMetH Tryz.prog Rows.cueSettledRow.laid w) (fun _ _ _ hh h => h.of_heap hh) own started (by kernel_rfl) Tryz.func11
  (ChangeSpec.witness_shaped (enc := enc) (C := Tryz.checked) (os := os) (X := fun w _ => laidMetH Tryz.prog Rows.cueSettledRow.laid w) false (World.laidAll Tryz.prog os Rows.cueSettledRow.laid) #[.agg #[.int .i64 0, .int .i64 0, .slice none 0 0], .slice none 0 0, .slice none 0 0] 8 (World.laidAll_os _ _ _)
   (World.shaped_of_ZipB (by kernel_rfl) (by kernel_rfl)) (by kernel_rfl) (by kernel_rfl) (by kernel_rfl)
   (by rw [MakeChecks.laidMetH_plain _ _ _ (by kernel_rfl)]; exact laidMet_laidAll _ (by kernel_rfl) (by kernel_rfl))) ?_
 intro W base args ds gs before hval0 hW _ _ _ _
 have hval : ∀ (j : Nat) t v, Tryz.f11.params[j]? = some t → args[j]? = some v → Value.okWide Tryz.prog W .any base t v := hval0
 have hW' := hW
 obtain ⟨p, q, hA0, hV, rfl, _, _⟩ := hW
 have hA : DataW.TrodAll enc Tryz.prog W 0 (fun _ => true) true Tryz.f11.params.toList args.toList ds p := hA0
 rw [Tryz.params11] at hA hval
 obtain ⟨v0, v1, v2, d0, d1, d2, p0, p1, p2, rfl, rfl, rfl, h0, h1, h2⟩ := trodAll_three hA
 obtain ⟨rfl, rfl⟩ := trodVars_none hV
 obtain ⟨x0, r0, _⟩ := arg_book (hval 0 24 v0 rfl rfl) h0
 obtain ⟨x1, r1, _⟩ := arg_evenings (hval 1 40 v1 rfl rfl) h1
 obtain ⟨x2, r2, _⟩ := arg_ints (hval 2 25 v2 rfl rfl) h2
 refine (law_calls (c_cueSettled x0 x1 x2) (by simp only [VRels, and_true]; exact ⟨r0, r1, r2⟩)).mono ?_
 rintro e W' ⟨rfl, hk⟩
 exact ⟨_, rfl, law_post laidOut (by kernel_rfl) (by kernel_rfl) (by kernel_rfl) hW' rfl rfl hk⟩
theorem cueSettled_named : Tryz.pinned.checked.prog.funcNamed Rows.cueSettledRow.func = some 11 := by kernel_rfl
theorem cueSettled_inst : Tryz.f11.isInstance Tryz.pinned.checked.prog Rows.cueSettledRow.origin Rows.cueSettledRow.targs := of_decide_eq_true (by kernel_rfl)
theorem cueSettled_wrap : Tryz.f11.isWrapper Tryz.pinned.checked.prog Rows.cueSettledRow.wrapper Rows.cueSettledRow.mainSum := by unfold Func.isWrapper; first | (rw [if_pos (by decide +kernel)]; kernel_rfl) | (rw [if_neg (by decide +kernel)]; exact ⟨rfl, rfl⟩)
set_option maxHeartbeats 8000000 in
theorem cueSettled_closed : joinedFacts Tryz.pinned.checked.prog 11 Tryz.f11 Rows.cueSettledSpec Rows.cueSettledRow = true := by
 unfold joinedFacts
 refine and_t (and_t (and_t (and_t (and_t (and_t (and_t (and_t (and_t (and_t (and_t (and_t (and_t (and_t (and_t (and_t (and_t (and_t (and_t (and_t (and_t (and_t (and_t (and_t (and_t (and_t (and_t (and_t (and_t (and_t (and_t ?_ ?_) ?_) ?_) ?_) ?_) ?_) ?_) ?_) ?_) ?_) ?_) ?_) ?_) ?_) ?_) ?_) ?_) ?_) ?_) ?_) ?_) ?_) ?_) ?_) ?_) ?_) ?_) ?_) ?_) ?_) ?_
 ·as_aux_lemma => kernel_rfl
 ·as_aux_lemma => kernel_rfl
 ·as_aux_lemma => kernel_rfl
 ·as_aux_lemma => kernel_rfl
 ·as_aux_lemma => kernel_rfl
 ·as_aux_lemma => kernel_rfl
 ·as_aux_lemma => kernel_rfl
 ·as_aux_lemma => kernel_rfl
 ·as_aux_lemma => kernel_rfl
 ·as_aux_lemma => kernel_rfl
 ·as_aux_lemma => kernel_rfl
 ·as_aux_lemma => kernel_rfl
 ·as_aux_lemma => kernel_rfl
 ·as_aux_lemma => kernel_rfl
 ·as_aux_lemma => kernel_rfl
 ·as_aux_lemma => kernel_rfl
 ·as_aux_lemma => kernel_rfl
 ·as_aux_lemma => kernel_rfl
 ·as_aux_lemma => kernel_rfl
 ·as_aux_lemma => kernel_rfl
 ·as_aux_lemma => kernel_rfl
 ·as_aux_lemma => kernel_rfl
 ·as_aux_lemma => kernel_rfl
 ·as_aux_lemma => kernel_rfl
 ·as_aux_lemma => kernel_rfl
 ·as_aux_lemma => kernel_rfl
 ·as_aux_lemma => kernel_rfl
 ·as_aux_lemma => kernel_rfl
 ·as_aux_lemma => kernel_rfl
 ·as_aux_lemma => kernel_rfl
 ·as_aux_lemma => kernel_rfl
 ·as_aux_lemma => kernel_rfl
theorem cueSettled_holds : Rows.CueSettledSaid :=
 OpenClaim.holds_of_wide 11 Tryz.f11 rfl rfl rfl rfl rfl rfl rfl ⟨rfl, rfl, rfl, rfl, rfl⟩ rfl rfl rfl rfl rfl cueSettled_named Tryz.func11 cueSettled_closed cueSettled_inst cueSettled_wrap
  (fun os started H enc _ => cueSettled_lifted os started H enc)
set_option maxHeartbeats 8000000 in
theorem cueSettled_card : Rows.CueSettledCardSaid :=
 Claim7.holds_tied_plain_at .later [] [.data, .data, .data, .data, .pinned] true (true, "d200c2f9484011b2fecf6d987098eee6f4d6857560912b686a09e1298a9b974d") true cueSettled_holds (fun _ h => by cases h) (by as_aux_lemma => kernel_rfl) (fun _ h => by cases h) cueSettled_row_tie rfl ⟨rfl, rfl⟩ (by as_aux_lemma => kernel_rfl) rfl
  (fun f fn hf hfn => by
   obtain rfl : f = 11 := Option.some.inj (cueSettled_named.symm.trans hf) |>.symm
   obtain rfl : fn = Tryz.f11 := (Option.some.inj (Tryz.func11.symm.trans hfn)).symm
   exact ⟨by as_aux_lemma => kernel_rfl, fun j t ht => by
    rw [Tryz.params11] at ht
    have hm : t ∈ [24, 40, 25] := by simpa using Array.mem_of_getElem? ht
    have hall : ([24, 40, 25].all fun u => !Tryz.prog.wantsStandIn u) = true := by kernel_rfl
    exact (show Tryz.prog.wantsStandIn t = false by simpa using List.all_eq_true.1 hall t hm)⟩)
  (by as_aux_lemma => kernel_rfl)
end Go.Proofs.YtdhdaadoehbopaaGreatDoor

/-
  The law CueFenced of package kelirlaw04 returns true for every input, and each argument reads afterwards as it read before: the tied card. Conditions: what the row lists of package-level variables, tied to the text of the program.
-/
import Derived.Test.YtdhdaadoehbopaaGreatDoorCm
import Derived.Test.YtdhdaadoehbopaaGreatDoorCl
import Derived.Test.YtdhdaadoehbopaaGreatDoorCb
import Derived.Test.YtdhdaadoehbopaaGreatDoorCd
import Derived.Test.YtdhdaadoehbopaaGreatDoorVk
import Derived.Test.YtdhdaadoehbopaaGreatDoorVr
import Derived.Test.YtdhdaadoehbopaaGreatDoorRows
import Derived.Test.YtdhdaadoehbopaaGreatDoorTie
import Derived.Test.YtdhdaadoehbopaaGreatDoorCards
import Derived.SevenTiedAt

/-
  CueFenced: its walk. (Own work.)
-/
namespace Go.Vm
open Go.Proofs

def freeB (L l : List Int) : Bool := l.all fun x => decide (x ∉ L)
theorem freeB_snoc (L l : List Int) (x : Int) : freeB L (l ++ [x]) = (freeB L l && decide (x ∉ L)) := by
  unfold freeB
  simp
theorem freeB_true {L l : List Int} (h : freeB L l = true) : ∀ x ∈ l, ¬ Listed L x := fun x hx => by
  unfold freeB at h
  rw [List.all_eq_true] at h
  exact of_decide_eq_true (h x hx)


set_option maxHeartbeats 8000000 in
set_option maxRecDepth 100000 in
theorem c_cueFenced (b : Book) (version tune : Int) (cues fence : List Int) (H : List Blk) : ACall Tryz.prog 21 [eBook b, n' version, n' tune, eInts cues, eInts fence] H (.ret (.lit (.bool true))) H := by
  refine fn_rule (m := false) (fn := Tryz.f21) (c := (Tryz.f21.body).getD .skip) mixed (by kernel_rfl) (by kernel_rfl) (of_decide_eq_true (by kernel_rfl)) ?_ ?_ ?_ H
  · exact ⟨under_eBook 0 _, trivial, trivial, under_eInts 0 _, under_eInts 0 _, trivial⟩
  · trivial
  · refine CallG.wbool (.cons (fun H => WeakH.refl _ H) (.cons wk_nilE .nil)) (c_right b []) (fun hR => ?_) (fun _ => ?_)
    · obtain ⟨⟨⟨hsh, _⟩, hB⟩, _⟩ := hR
      refine CallG.bool (c_version hB.fit _) (fun h2 => ?_) (fun _ => ?_)
      · refine CallG.bool (c_tune hB.fit _) (fun h3 => ?_) (fun _ => ?_)
        · refine If.mk (fun h4 => ?_) (fun h4 => ?_)
          · refine IfB.mk (fun _ => ?_) (fun e => by cases e)
            refine CallG.pure _ (known_call) ?_
            exact ⟨.inl rfl, FinG.mk _ rfl rfl rfl⟩
          · refine CallG.bool (c_list hB.fit _ (by omega)) (fun hO => ?_) (fun _ => ?_)
            · refine If.mk (fun h5 => ?_) (fun h5 => ?_)
              · refine IfB.mk (fun _ => ?_) (fun e => by cases e)
                refine CallG.pure _ (known_call) ?_
                exact ⟨.inl rfl, FinG.mk _ rfl rfl rfl⟩
              · refine CallG.bool (c_fenced hB.fit _ (by omega)) (fun hFe => ?_) (fun _ => ?_)
                · refine IfB.mk (fun e => by cases e) (fun _ => ?_)
                  have hi := h2
                  unfold inI at hi
                  obtain ⟨v, hv⟩ : ∃ v, b.vs[version.toNat]? = some v := ⟨_, List.getElem?_eq_getElem (by omega)⟩
                  obtain ⟨hvo, hv0⟩ := (hB.2 v (List.mem_of_getElem? hv)).vers
                  have hv4 := (hB.2 v (List.mem_of_getElem? hv)).2
                  have hbc := hB.1.1
                  unfold inI at hv4 hbc
                  obtain ⟨u, hu, hue⟩ := ints_cues (hO.cues (by omega)).1
                  rw [fenL_iff (by omega)] at hFe
                  obtain ⟨hf1, hf2, _⟩ := fence_props (v := v) (tune := tune) b.cues.toNat
                  obtain ⟨o, hD, hc⟩ := c_Danger hsh.len hB h2 hv h3
                  have hfen := fun H => c_Fence hsh.len hB h2 hv h3 H
                  have hfl := incr_length hf1 (Nat.zero_le _)
                  have hfe := (fenL_iff (b := b) (by omega)).2 hf1
                  have hless : FBefore fence (fenceL v tune b.cues.toNat) → _ := fence_less hvo hv0 hFe
                  have hnil : o = none → fenceL v tune b.cues.toNat = [] := fun e => fence_nil (danger_none hD e)
                  have hfree : ∀ i, i < cues.length → (∀ x ∈ cues.take (i + 1), ¬ Listed (fenceL v tune b.cues.toNat) x) → ¬ LastT v tune (u.take (i + 1)) := fun i _ hx => good_iff.1 hf2 _ (fun x hx => hu x (List.mem_of_mem_take hx)) (fun c hc => by
                    refine hx _ ?_
                    rw [← hue]
                    unfold cuesI
                    rw [← List.map_take]
                    exact List.mem_map.2 ⟨c, hc, rfl⟩)
                  have hne : ∀ l, OkL b.cues.toNat l → LastT v tune l → fenceL v tune b.cues.toNat ≠ [] := fun l h1 h2 => fence_some h1 h2
                  generalize fenceL v tune b.cues.toNat = L at *
                  cases o with
                  | none =>
                    refine CallG.pure _ (hc) ?_
                    refine CallG.pure _ (hfen) ?_
                    refine CallG.pure _ (c_plays_ok hsh.len hB h2.1 hv hO) ?_
                    refine If.mk (fun _ => ?_) (fun h => absurd (by decide) h)
                    refine If.mk (fun _ => ?_) (fun h => absurd (by decide) h)
                    refine If.mk (fun h => absurd h (by decide)) (fun _ => ?_)
                    refine If.mk (fun _ => ?_) (fun h => absurd (by decide) h)
                    refine If.mk (fun h => absurd h (by omega)) (fun _ => ?_)
                    refine CallG.bool (c_fenced hB.fit L (by omega)) (fun _ => ?_) (fun h => absurd hfe h)
                    refine If.mk (fun _ => ?_) (fun h => absurd (by rw [plays_length]) h)
                    refine If.mk (fun _ => ?_) (fun h => absurd (by rw [hnil rfl]; rfl) h)
                    refine If.mk (fun _ => ?_) (fun h => absurd (by decide) h)
                    refine IfB.mk (fun e => by cases e) (fun _ => ?_)
                    have hnone := danger_none hD rfl
                    refine LoopG.at (n0 := 1) rfl (loop_up mixed (m := false) (fun r => [(1, n' version), (2, n' tune), (3, eInts cues), (4, eInts fence), (5, .ptr 0 0), (12, n' 5), (13, eInts L), (15, eInts (plays v 0 cues)), (17, nb (freeB L (cues.take r))), (18, n' r)]) (fun _ => [(0, bBox b)]) (fun _ => True) cues.length 1 (leb rfl) trivial ?_ ?_ ?_)
                    · exact ⟨⟨_, rfl, Weak.refl _ _, trivial⟩, ⟨_, rfl, Weak.refl _ _, trivial⟩, ⟨_, rfl, Weak.refl _ _, under_eInts _ _⟩, ⟨_, rfl, Weak.refl _ _, under_eInts _ _⟩, ⟨_, rfl, Weak.refl _ _, ltb rfl⟩, ⟨_, rfl, Weak.refl _ _, trivial⟩, ⟨_, rfl, Weak.refl _ _, under_eInts _ _⟩, ⟨_, rfl, Weak.refl _ _, under_eInts _ _⟩, ⟨_, rfl, Weak.refl _ _, trivial⟩, ⟨_, rfl, Weak.refl _ _, trivial⟩, trivial⟩
                    · exact ⟨⟨rfl, ltb rfl⟩, trivial⟩
                    · intro r hr _
                      refine If.mk (fun h6 => ?_) (fun h6 => ?_)
                      · refine IfB.mk (fun _ => ?_) (fun e => by cases e)
                        obtain ⟨x, hx, htk, _⟩ := at_some (l := cues) (r := r) (by omega)
                        obtain ⟨y, hp, _, _⟩ := at_some (l := plays v 0 cues) (r := r) (by rw [plays_length]; omega)
                        have hlast : r < u.length ∧ (y = tune → LastT v tune (u.take (r + 1))) := plays_last (by rw [hue]; exact hp)
                        have hutk : OkL b.cues.toNat (u.take (r + 1)) := fun x hx => hu x (List.mem_of_mem_take hx)
                        have hut : cuesI (u.take (r + 1)) = cues.take (r + 1) := by rw [← hue]; unfold cuesI; rw [List.map_take]
                        have hlt : (cues.take (r + 1)).length = r + 1 := by rw [List.length_take]; omega
                        generalize hb : freeB L (cues.take r) = fb
                        cases fb with
                        | true =>
                          refine Ex.mk _ (jx_ints (r := r) rfl hx) ?_
                          refine Ex.mk _ rfl ?_
                          refine CallG.bool (c_listed L x (by omega)) (fun h => ?_) (fun h => ?_)
                          · have e17 : freeB L (cues.take (r + 1)) = false := by
                              rw [htk, freeB_snoc, decide_eq_false (show ¬ x ∉ L from fun k => k h), Bool.and_false]
                            refine Ex.mk _ (jx_ints (r := r) rfl hp) ?_
                            refine Ex.mk _ rfl ?_
                            refine If.mk (fun h => absurd (hlast.2 h) (hnone _ hutk)) (fun _ => ?_)
                            refine IfB.mk (fun e => by cases e) (fun _ => ?_)
                            refine Side.mk (fits64 (by omega)) ?_
                            exact ⟨leb rfl, rfl, by omega, trivial, ⟨⟨_, rfl, Weak.refl _ _, trivial⟩, ⟨_, rfl, Weak.refl _ _, trivial⟩, ⟨_, rfl, Weak.refl _ _, under_eInts _ _⟩, ⟨_, rfl, Weak.refl _ _, under_eInts _ _⟩, ⟨_, rfl, Weak.refl _ _, ltb rfl⟩, ⟨_, rfl, Weak.refl _ _, trivial⟩, ⟨_, rfl, Weak.refl _ _, under_eInts _ _⟩, ⟨_, rfl, Weak.refl _ _, under_eInts _ _⟩, ⟨_, rfl, Weak.of_eq (congrArg nb e17.symm), trivial⟩, ⟨_, rfl, Weak.refl _ _, trivial⟩, trivial⟩, ⟨⟨rfl, ltb rfl⟩, trivial⟩, trivial⟩
                          · have e17 : freeB L (cues.take (r + 1)) = true := by
                              rw [htk, freeB_snoc, hb, decide_eq_true (show x ∉ L from h)]
                              rfl
                            refine Ex.mk _ (jx_ints (r := r) rfl hp) ?_
                            refine Ex.mk _ rfl ?_
                            refine If.mk (fun h => absurd (hlast.2 h) (hnone _ hutk)) (fun _ => ?_)
                            refine IfB.mk (fun e => by cases e) (fun _ => ?_)
                            refine Side.mk (fits64 (by omega)) ?_
                            exact ⟨leb rfl, rfl, by omega, trivial, ⟨⟨_, rfl, Weak.refl _ _, trivial⟩, ⟨_, rfl, Weak.refl _ _, trivial⟩, ⟨_, rfl, Weak.refl _ _, under_eInts _ _⟩, ⟨_, rfl, Weak.refl _ _, under_eInts _ _⟩, ⟨_, rfl, Weak.refl _ _, ltb rfl⟩, ⟨_, rfl, Weak.refl _ _, trivial⟩, ⟨_, rfl, Weak.refl _ _, under_eInts _ _⟩, ⟨_, rfl, Weak.refl _ _, under_eInts _ _⟩, ⟨_, rfl, Weak.of_eq (congrArg nb e17.symm), trivial⟩, ⟨_, rfl, Weak.refl _ _, trivial⟩, trivial⟩, ⟨⟨rfl, ltb rfl⟩, trivial⟩, trivial⟩
                        | false =>
                          have e17 : freeB L (cues.take (r + 1)) = false := by
                            rw [htk, freeB_snoc, hb]
                            rfl
                          refine Ex.mk _ (jx_ints (r := r) rfl hp) ?_
                          refine Ex.mk _ rfl ?_
                          refine If.mk (fun h => absurd (hlast.2 h) (hnone _ hutk)) (fun _ => ?_)
                          refine IfB.mk (fun e => by cases e) (fun _ => ?_)
                          refine Side.mk (fits64 (by omega)) ?_
                          exact ⟨leb rfl, rfl, by omega, trivial, ⟨⟨_, rfl, Weak.refl _ _, trivial⟩, ⟨_, rfl, Weak.refl _ _, trivial⟩, ⟨_, rfl, Weak.refl _ _, under_eInts _ _⟩, ⟨_, rfl, Weak.refl _ _, under_eInts _ _⟩, ⟨_, rfl, Weak.refl _ _, ltb rfl⟩, ⟨_, rfl, Weak.refl _ _, trivial⟩, ⟨_, rfl, Weak.refl _ _, under_eInts _ _⟩, ⟨_, rfl, Weak.refl _ _, under_eInts _ _⟩, ⟨_, rfl, Weak.of_eq (congrArg nb e17.symm), trivial⟩, ⟨_, rfl, Weak.refl _ _, trivial⟩, trivial⟩, ⟨⟨rfl, ltb rfl⟩, trivial⟩, trivial⟩
                      · refine IfB.mk (fun e => by cases e) (fun _ => ?_)
                        refine ⟨leb rfl, ?_⟩
                        refine If.mk (fun h => absurd h (by decide)) (fun _ => ?_)
                        refine IfB.mk (fun e => by cases e) (fun _ => ?_)
                        refine If.mk (fun h8 => ?_) (fun h8 => ?_)
                        · obtain ⟨w, hw1, hw2, hw3, hw4⟩ := hless (.inl (by omega))
                          obtain ⟨_, ⟨y, rfl, hy1, hy2, hy3, hy4⟩, hrd⟩ := c_refDanger hvo hv0 (by omega) hB.1.1 tune fence (by omega) hw1 hw2 hw3 hw4
                          obtain ⟨y0, c, ey, hmv⟩ := hy3
                          have hyl : y.length = y0.length + 1 := by rw [ey]; simp
                          have hY : LList b (cuesI y) := by
                            refine ⟨by rw [cuesI_length]; omega, fun x hx => ?_⟩
                            have := cuesI_ok hy1 x hx
                            unfold inI; omega
                          obtain ⟨Q, hQ⟩ : ∃ Q, Q = plays v 0 (cuesI y0) := ⟨_, rfl⟩
                          have hQl : Q.length = y0.length := by rw [hQ, plays_length, cuesI_length]
                          have eQ : plays v 0 (cuesI y) = Q ++ [tune] := by rw [ey, cuesI_snoc, plays_snoc, Int.toNat_natCast, hQ, hmv]
                          have hpy := fun H => c_plays_ok hsh.len hB h2.1 hv hY H
                          rw [eQ] at hpy
                          have hxQ : (Q ++ [tune])[Q.length]? = some tune := by simp
                          have hlQ : (Q ++ [tune]).length = Q.length + 1 := by simp
                          have hcl := cuesI_length y
                          refine IfB.mk (fun _ => ?_) (fun e => by cases e)
                          refine Ex.mk _ (jx_versions (r := version.toNat) (by omega) hv) ?_
                          refine Ex.mk _ rfl ?_
                          refine CallG.pure _ (fun H => hrd H) ?_
                          refine IfB.mk (fun e => by cases e) (fun _ => ?_)
                          refine CallG.pure _ (hpy) ?_
                          refine If.mk (fun _ => ?_) (fun h => absurd (by decide) h)
                          refine If.mk (fun _ => ?_) (fun h => absurd (by omega) h)
                          refine Side.mk (fits64 (by omega)) ?_
                          refine Ex.mk _ (jx_ints (r := Q.length) (by omega) hxQ) ?_
                          refine Ex.mk _ rfl ?_
                          refine If.mk (fun _ => ?_) (fun h => absurd (rfl) h)
                          refine CallG.pure _ (known_call) ?_
                          exact ⟨.inl rfl, FinG.mk _ rfl rfl rfl⟩
                        · refine If.mk (fun h9 => ?_) (fun h9 => ?_)
                          · refine CallG.bool (c_before _ _ (by omega)) (fun hb => ?_) (fun _ => ?_)
                            · obtain ⟨w, hw1, hw2, hw3, hw4⟩ := hless (.inr ⟨by omega, hb⟩)
                              obtain ⟨_, ⟨y, rfl, hy1, hy2, hy3, hy4⟩, hrd⟩ := c_refDanger hvo hv0 (by omega) hB.1.1 tune fence (by omega) hw1 hw2 hw3 hw4
                              obtain ⟨y0, c, ey, hmv⟩ := hy3
                              have hyl : y.length = y0.length + 1 := by rw [ey]; simp
                              have hY : LList b (cuesI y) := by
                                refine ⟨by rw [cuesI_length]; omega, fun x hx => ?_⟩
                                have := cuesI_ok hy1 x hx
                                unfold inI; omega
                              obtain ⟨Q, hQ⟩ : ∃ Q, Q = plays v 0 (cuesI y0) := ⟨_, rfl⟩
                              have hQl : Q.length = y0.length := by rw [hQ, plays_length, cuesI_length]
                              have eQ : plays v 0 (cuesI y) = Q ++ [tune] := by rw [ey, cuesI_snoc, plays_snoc, Int.toNat_natCast, hQ, hmv]
                              have hpy := fun H => c_plays_ok hsh.len hB h2.1 hv hY H
                              rw [eQ] at hpy
                              have hxQ : (Q ++ [tune])[Q.length]? = some tune := by simp
                              have hlQ : (Q ++ [tune]).length = Q.length + 1 := by simp
                              have hcl := cuesI_length y
                              refine IfB.mk (fun _ => ?_) (fun e => by cases e)
                              refine Ex.mk _ (jx_versions (r := version.toNat) (by omega) hv) ?_
                              refine Ex.mk _ rfl ?_
                              refine CallG.pure _ (fun H => hrd H) ?_
                              refine IfB.mk (fun e => by cases e) (fun _ => ?_)
                              refine CallG.pure _ (hpy) ?_
                              refine If.mk (fun _ => ?_) (fun h => absurd (by decide) h)
                              refine If.mk (fun _ => ?_) (fun h => absurd (by omega) h)
                              refine Side.mk (fits64 (by omega)) ?_
                              refine Ex.mk _ (jx_ints (r := Q.length) (by omega) hxQ) ?_
                              refine Ex.mk _ rfl ?_
                              refine If.mk (fun _ => ?_) (fun h => absurd (rfl) h)
                              refine CallG.pure _ (known_call) ?_
                              exact ⟨.inl rfl, FinG.mk _ rfl rfl rfl⟩
                            · refine IfB.mk (fun e => by cases e) (fun _ => ?_)
                              refine CallG.pure _ (known_call) ?_
                              exact ⟨.inl rfl, FinG.mk _ rfl rfl rfl⟩
                          · refine IfB.mk (fun e => by cases e) (fun _ => ?_)
                            refine CallG.pure _ (known_call) ?_
                            exact ⟨.inl rfl, FinG.mk _ rfl rfl rfl⟩
                  | some l =>
                    obtain ⟨hl1, hl2, hl3, hl4⟩ := danger_some hvo hv0 hD
                    have hLn := hne l hl1 hl2
                    have hLl : 0 < L.length := List.length_pos_iff.2 hLn
                    refine CallG.pure _ (hc) ?_
                    refine CallG.pure _ (hfen) ?_
                    refine CallG.pure _ (c_plays_ok hsh.len hB h2.1 hv hO) ?_
                    refine If.mk (fun _ => ?_) (fun h => absurd (by decide) h)
                    refine If.mk (fun _ => ?_) (fun h => absurd (by decide) h)
                    refine If.mk (fun _ => ?_) (fun h => absurd (by decide) h)
                    refine If.mk (fun h => absurd h (by omega)) (fun _ => ?_)
                    refine CallG.bool (c_fenced hB.fit L (by omega)) (fun _ => ?_) (fun h => absurd hfe h)
                    refine If.mk (fun _ => ?_) (fun h => absurd (by rw [plays_length]) h)
                    refine If.mk (fun h => absurd h (by omega)) (fun _ => ?_)
                    refine If.mk (fun h => absurd h (by decide)) (fun _ => ?_)
                    refine IfB.mk (fun e => by cases e) (fun _ => ?_)
                    obtain ⟨P, hP1, hP2, hP3⟩ := danger_own hl1 hl2 hl4
                    have hX : LList b (cuesI l) := by
                      refine ⟨by rw [cuesI_length]; omega, fun x hx => ?_⟩
                      have := cuesI_ok hl1 x hx
                      unfold inI; omega
                    have hpl := fun H => c_plays_ok hsh.len hB h2.1 hv hX H
                    rw [hP1] at hpl
                    have hxP : (P ++ [tune])[P.length]? = some tune := by simp
                    have hlP : (P ++ [tune]).length = P.length + 1 := by simp
                    refine LoopG.at (n0 := 1) rfl (loop_up mixed (m := false) (fun r => [(1, n' version), (2, n' tune), (3, eInts cues), (4, eInts fence), (5, .ptr 0 0), (11, eInts (cuesI l)), (12, n' 0), (13, eInts L), (15, eInts (plays v 0 cues)), (17, nb (freeB L (cues.take r))), (18, n' r)]) (fun _ => [(0, bBox b)]) (fun _ => True) cues.length 1 (leb rfl) trivial ?_ ?_ ?_)
                    · exact ⟨⟨_, rfl, Weak.refl _ _, trivial⟩, ⟨_, rfl, Weak.refl _ _, trivial⟩, ⟨_, rfl, Weak.refl _ _, under_eInts _ _⟩, ⟨_, rfl, Weak.refl _ _, under_eInts _ _⟩, ⟨_, rfl, Weak.refl _ _, ltb rfl⟩, ⟨_, rfl, Weak.refl _ _, under_eInts _ _⟩, ⟨_, rfl, Weak.refl _ _, trivial⟩, ⟨_, rfl, Weak.refl _ _, under_eInts _ _⟩, ⟨_, rfl, Weak.refl _ _, under_eInts _ _⟩, ⟨_, rfl, Weak.refl _ _, trivial⟩, ⟨_, rfl, Weak.refl _ _, trivial⟩, trivial⟩
                    · exact ⟨⟨rfl, ltb rfl⟩, trivial⟩
                    · intro r hr _
                      refine If.mk (fun h6 => ?_) (fun h6 => ?_)
                      · refine IfB.mk (fun _ => ?_) (fun e => by cases e)
                        obtain ⟨x, hx, htk, _⟩ := at_some (l := cues) (r := r) (by omega)
                        obtain ⟨y, hp, _, _⟩ := at_some (l := plays v 0 cues) (r := r) (by rw [plays_length]; omega)
                        have hlast : r < u.length ∧ (y = tune → LastT v tune (u.take (r + 1))) := plays_last (by rw [hue]; exact hp)
                        have hutk : OkL b.cues.toNat (u.take (r + 1)) := fun x hx => hu x (List.mem_of_mem_take hx)
                        have hut : cuesI (u.take (r + 1)) = cues.take (r + 1) := by rw [← hue]; unfold cuesI; rw [List.map_take]
                        have hlt : (cues.take (r + 1)).length = r + 1 := by rw [List.length_take]; omega
                        generalize hb : freeB L (cues.take r) = fb
                        cases fb with
                        | true =>
                          refine Ex.mk _ (jx_ints (r := r) rfl hx) ?_
                          refine Ex.mk _ rfl ?_
                          refine CallG.bool (c_listed L x (by omega)) (fun h => ?_) (fun h => ?_)
                          · have e17 : freeB L (cues.take (r + 1)) = false := by
                              rw [htk, freeB_snoc, decide_eq_false (show ¬ x ∉ L from fun k => k h), Bool.and_false]
                            refine Ex.mk _ (jx_ints (r := r) rfl hp) ?_
                            refine Ex.mk _ rfl ?_
                            refine If.mk (fun h7 => ?_) (fun h7 => ?_)
                            · obtain ⟨g1, g2⟩ := le_ints (hl4 _ hutk (hlast.2 h7))
                              rw [hut] at g1 g2
                              have hcl := cuesI_length l
                              refine If.mk (fun _ => ?_) (fun h => absurd (by decide) h)
                              refine Side.mk (fits64 (by omega)) ?_
                              refine If.mk (fun h => absurd h (by omega)) (fun _ => ?_)
                              refine Side.mk (fits64 (by omega)) ?_
                              refine If.mk (fun h8 => ?_) (fun h8 => ?_)
                              · refine Side.mk (fits64 (by omega)) ?_
                                refine Ex.mk _ (aop_slice (l := cues) (k := r + 1) rfl rfl rfl (show ((r : Int) + 1) = ((r + 1 : Nat) : Int) by omega) (by omega)) ?_
                                refine CallG.bool (c_before _ _ (by omega)) (fun h => absurd h (g2 (by omega))) (fun _ => ?_)
                                refine IfB.mk (fun e => by cases e) (fun _ => ?_)
                                refine Side.mk (fits64 (by omega)) ?_
                                exact ⟨leb rfl, rfl, by omega, trivial, ⟨⟨_, rfl, Weak.refl _ _, trivial⟩, ⟨_, rfl, Weak.refl _ _, trivial⟩, ⟨_, rfl, Weak.refl _ _, under_eInts _ _⟩, ⟨_, rfl, Weak.refl _ _, under_eInts _ _⟩, ⟨_, rfl, Weak.refl _ _, ltb rfl⟩, ⟨_, rfl, Weak.refl _ _, under_eInts _ _⟩, ⟨_, rfl, Weak.refl _ _, trivial⟩, ⟨_, rfl, Weak.refl _ _, under_eInts _ _⟩, ⟨_, rfl, Weak.refl _ _, under_eInts _ _⟩, ⟨_, rfl, Weak.of_eq (congrArg nb e17.symm), trivial⟩, ⟨_, rfl, Weak.refl _ _, trivial⟩, trivial⟩, ⟨⟨rfl, ltb rfl⟩, trivial⟩, trivial⟩
                              · refine IfB.mk (fun e => by cases e) (fun _ => ?_)
                                refine Side.mk (fits64 (by omega)) ?_
                                exact ⟨leb rfl, rfl, by omega, trivial, ⟨⟨_, rfl, Weak.refl _ _, trivial⟩, ⟨_, rfl, Weak.refl _ _, trivial⟩, ⟨_, rfl, Weak.refl _ _, under_eInts _ _⟩, ⟨_, rfl, Weak.refl _ _, under_eInts _ _⟩, ⟨_, rfl, Weak.refl _ _, ltb rfl⟩, ⟨_, rfl, Weak.refl _ _, under_eInts _ _⟩, ⟨_, rfl, Weak.refl _ _, trivial⟩, ⟨_, rfl, Weak.refl _ _, under_eInts _ _⟩, ⟨_, rfl, Weak.refl _ _, under_eInts _ _⟩, ⟨_, rfl, Weak.of_eq (congrArg nb e17.symm), trivial⟩, ⟨_, rfl, Weak.refl _ _, trivial⟩, trivial⟩, ⟨⟨rfl, ltb rfl⟩, trivial⟩, trivial⟩
                            · refine IfB.mk (fun e => by cases e) (fun _ => ?_)
                              refine Side.mk (fits64 (by omega)) ?_
                              exact ⟨leb rfl, rfl, by omega, trivial, ⟨⟨_, rfl, Weak.refl _ _, trivial⟩, ⟨_, rfl, Weak.refl _ _, trivial⟩, ⟨_, rfl, Weak.refl _ _, under_eInts _ _⟩, ⟨_, rfl, Weak.refl _ _, under_eInts _ _⟩, ⟨_, rfl, Weak.refl _ _, ltb rfl⟩, ⟨_, rfl, Weak.refl _ _, under_eInts _ _⟩, ⟨_, rfl, Weak.refl _ _, trivial⟩, ⟨_, rfl, Weak.refl _ _, under_eInts _ _⟩, ⟨_, rfl, Weak.refl _ _, under_eInts _ _⟩, ⟨_, rfl, Weak.of_eq (congrArg nb e17.symm), trivial⟩, ⟨_, rfl, Weak.refl _ _, trivial⟩, trivial⟩, ⟨⟨rfl, ltb rfl⟩, trivial⟩, trivial⟩
                          · have e17 : freeB L (cues.take (r + 1)) = true := by
                              rw [htk, freeB_snoc, hb, decide_eq_true (show x ∉ L from h)]
                              rfl
                            refine Ex.mk _ (jx_ints (r := r) rfl hp) ?_
                            refine Ex.mk _ rfl ?_
                            refine If.mk (fun h => absurd (hlast.2 h) (hfree r (by omega) (freeB_true e17))) (fun _ => ?_)
                            refine IfB.mk (fun e => by cases e) (fun _ => ?_)
                            refine Side.mk (fits64 (by omega)) ?_
                            exact ⟨leb rfl, rfl, by omega, trivial, ⟨⟨_, rfl, Weak.refl _ _, trivial⟩, ⟨_, rfl, Weak.refl _ _, trivial⟩, ⟨_, rfl, Weak.refl _ _, under_eInts _ _⟩, ⟨_, rfl, Weak.refl _ _, under_eInts _ _⟩, ⟨_, rfl, Weak.refl _ _, ltb rfl⟩, ⟨_, rfl, Weak.refl _ _, under_eInts _ _⟩, ⟨_, rfl, Weak.refl _ _, trivial⟩, ⟨_, rfl, Weak.refl _ _, under_eInts _ _⟩, ⟨_, rfl, Weak.refl _ _, under_eInts _ _⟩, ⟨_, rfl, Weak.of_eq (congrArg nb e17.symm), trivial⟩, ⟨_, rfl, Weak.refl _ _, trivial⟩, trivial⟩, ⟨⟨rfl, ltb rfl⟩, trivial⟩, trivial⟩
                        | false =>
                          have e17 : freeB L (cues.take (r + 1)) = false := by
                            rw [htk, freeB_snoc, hb]
                            rfl
                          refine Ex.mk _ (jx_ints (r := r) rfl hp) ?_
                          refine Ex.mk _ rfl ?_
                          refine If.mk (fun h7 => ?_) (fun h7 => ?_)
                          · obtain ⟨g1, g2⟩ := le_ints (hl4 _ hutk (hlast.2 h7))
                            rw [hut] at g1 g2
                            have hcl := cuesI_length l
                            refine If.mk (fun _ => ?_) (fun h => absurd (by decide) h)
                            refine Side.mk (fits64 (by omega)) ?_
                            refine If.mk (fun h => absurd h (by omega)) (fun _ => ?_)
                            refine Side.mk (fits64 (by omega)) ?_
                            refine If.mk (fun h8 => ?_) (fun h8 => ?_)
                            · refine Side.mk (fits64 (by omega)) ?_
                              refine Ex.mk _ (aop_slice (l := cues) (k := r + 1) rfl rfl rfl (show ((r : Int) + 1) = ((r + 1 : Nat) : Int) by omega) (by omega)) ?_
                              refine CallG.bool (c_before _ _ (by omega)) (fun h => absurd h (g2 (by omega))) (fun _ => ?_)
                              refine IfB.mk (fun e => by cases e) (fun _ => ?_)
                              refine Side.mk (fits64 (by omega)) ?_
                              exact ⟨leb rfl, rfl, by omega, trivial, ⟨⟨_, rfl, Weak.refl _ _, trivial⟩, ⟨_, rfl, Weak.refl _ _, trivial⟩, ⟨_, rfl, Weak.refl _ _, under_eInts _ _⟩, ⟨_, rfl, Weak.refl _ _, under_eInts _ _⟩, ⟨_, rfl, Weak.refl _ _, ltb rfl⟩, ⟨_, rfl, Weak.refl _ _, under_eInts _ _⟩, ⟨_, rfl, Weak.refl _ _, trivial⟩, ⟨_, rfl, Weak.refl _ _, under_eInts _ _⟩, ⟨_, rfl, Weak.refl _ _, under_eInts _ _⟩, ⟨_, rfl, Weak.of_eq (congrArg nb e17.symm), trivial⟩, ⟨_, rfl, Weak.refl _ _, trivial⟩, trivial⟩, ⟨⟨rfl, ltb rfl⟩, trivial⟩, trivial⟩
                            · refine IfB.mk (fun e => by cases e) (fun _ => ?_)
                              refine Side.mk (fits64 (by omega)) ?_
                              exact ⟨leb rfl, rfl, by omega, trivial, ⟨⟨_, rfl, Weak.refl _ _, trivial⟩, ⟨_, rfl, Weak.refl _ _, trivial⟩, ⟨_, rfl, Weak.refl _ _, under_eInts _ _⟩, ⟨_, rfl, Weak.refl _ _, under_eInts _ _⟩, ⟨_, rfl, Weak.refl _ _, ltb rfl⟩, ⟨_, rfl, Weak.refl _ _, under_eInts _ _⟩, ⟨_, rfl, Weak.refl _ _, trivial⟩, ⟨_, rfl, Weak.refl _ _, under_eInts _ _⟩, ⟨_, rfl, Weak.refl _ _, under_eInts _ _⟩, ⟨_, rfl, Weak.of_eq (congrArg nb e17.symm), trivial⟩, ⟨_, rfl, Weak.refl _ _, trivial⟩, trivial⟩, ⟨⟨rfl, ltb rfl⟩, trivial⟩, trivial⟩
                          · refine IfB.mk (fun e => by cases e) (fun _ => ?_)
                            refine Side.mk (fits64 (by omega)) ?_
                            exact ⟨leb rfl, rfl, by omega, trivial, ⟨⟨_, rfl, Weak.refl _ _, trivial⟩, ⟨_, rfl, Weak.refl _ _, trivial⟩, ⟨_, rfl, Weak.refl _ _, under_eInts _ _⟩, ⟨_, rfl, Weak.refl _ _, under_eInts _ _⟩, ⟨_, rfl, Weak.refl _ _, ltb rfl⟩, ⟨_, rfl, Weak.refl _ _, under_eInts _ _⟩, ⟨_, rfl, Weak.refl _ _, trivial⟩, ⟨_, rfl, Weak.refl _ _, under_eInts _ _⟩, ⟨_, rfl, Weak.refl _ _, under_eInts _ _⟩, ⟨_, rfl, Weak.of_eq (congrArg nb e17.symm), trivial⟩, ⟨_, rfl, Weak.refl _ _, trivial⟩, trivial⟩, ⟨⟨rfl, ltb rfl⟩, trivial⟩, trivial⟩
                      · refine IfB.mk (fun e => by cases e) (fun _ => ?_)
                        refine ⟨leb rfl, ?_⟩
                        have hcl := cuesI_length l
                        refine If.mk (fun _ => ?_) (fun h => absurd (by decide) h)
                        refine IfB.mk (fun _ => ?_) (fun e => by cases e)
                        refine CallG.pure _ (hpl) ?_
                        refine If.mk (fun _ => ?_) (fun h => absurd (by decide) h)
                        refine If.mk (fun h => absurd h (by omega)) (fun _ => ?_)
                        refine If.mk (fun h => absurd h (by omega)) (fun _ => ?_)
                        refine If.mk (fun _ => ?_) (fun h => absurd (by omega) h)
                        refine Side.mk (fits64 (by omega)) ?_
                        refine Ex.mk _ (jx_ints (r := P.length) (by omega) hxP) ?_
                        refine Ex.mk _ rfl ?_
                        refine If.mk (fun _ => ?_) (fun h => absurd (rfl) h)
                        refine Side.mk (fits64 (by omega)) ?_
                        refine Ex.mk _ (aop_slice (k := P.length) rfl rfl rfl (by omega) (by omega)) ?_
                        refine CallG.bool (c_listed _ _ (by rw [List.length_take]; omega)) (fun h => absurd (by simpa [Listed] using h) hP2) (fun _ => ?_)
                        refine IfB.mk (fun e => by cases e) (fun _ => ?_)
                        refine If.mk (fun h8 => ?_) (fun h8 => ?_)
                        · obtain ⟨w, hw1, hw2, hw3, hw4⟩ := hless (.inl (by omega))
                          obtain ⟨_, ⟨y, rfl, hy1, hy2, hy3, hy4⟩, hrd⟩ := c_refDanger hvo hv0 (by omega) hB.1.1 tune fence (by omega) hw1 hw2 hw3 hw4
                          obtain ⟨y0, c, ey, hmv⟩ := hy3
                          have hyl : y.length = y0.length + 1 := by rw [ey]; simp
                          have hY : LList b (cuesI y) := by
                            refine ⟨by rw [cuesI_length]; omega, fun x hx => ?_⟩
                            have := cuesI_ok hy1 x hx
                            unfold inI; omega
                          obtain ⟨Q, hQ⟩ : ∃ Q, Q = plays v 0 (cuesI y0) := ⟨_, rfl⟩
                          have hQl : Q.length = y0.length := by rw [hQ, plays_length, cuesI_length]
                          have eQ : plays v 0 (cuesI y) = Q ++ [tune] := by rw [ey, cuesI_snoc, plays_snoc, Int.toNat_natCast, hQ, hmv]
                          have hpy := fun H => c_plays_ok hsh.len hB h2.1 hv hY H
                          rw [eQ] at hpy
                          have hxQ : (Q ++ [tune])[Q.length]? = some tune := by simp
                          have hlQ : (Q ++ [tune]).length = Q.length + 1 := by simp
                          have hcl := cuesI_length y
                          refine IfB.mk (fun _ => ?_) (fun e => by cases e)
                          refine Ex.mk _ (jx_versions (r := version.toNat) (by omega) hv) ?_
                          refine Ex.mk _ rfl ?_
                          refine CallG.pure _ (fun H => hrd H) ?_
                          refine IfB.mk (fun e => by cases e) (fun _ => ?_)
                          refine CallG.pure _ (hpy) ?_
                          refine If.mk (fun _ => ?_) (fun h => absurd (by decide) h)
                          refine If.mk (fun _ => ?_) (fun h => absurd (by omega) h)
                          refine Side.mk (fits64 (by omega)) ?_
                          refine Ex.mk _ (jx_ints (r := Q.length) (by omega) hxQ) ?_
                          refine Ex.mk _ rfl ?_
                          refine If.mk (fun _ => ?_) (fun h => absurd (rfl) h)
                          refine CallG.pure _ (known_call) ?_
                          exact ⟨.inl rfl, FinG.mk _ rfl rfl rfl⟩
                        · refine If.mk (fun h9 => ?_) (fun h9 => ?_)
                          · refine CallG.bool (c_before _ _ (by omega)) (fun hb => ?_) (fun _ => ?_)
                            · obtain ⟨w, hw1, hw2, hw3, hw4⟩ := hless (.inr ⟨by omega, hb⟩)
                              obtain ⟨_, ⟨y, rfl, hy1, hy2, hy3, hy4⟩, hrd⟩ := c_refDanger hvo hv0 (by omega) hB.1.1 tune fence (by omega) hw1 hw2 hw3 hw4
                              obtain ⟨y0, c, ey, hmv⟩ := hy3
                              have hyl : y.length = y0.length + 1 := by rw [ey]; simp
                              have hY : LList b (cuesI y) := by
                                refine ⟨by rw [cuesI_length]; omega, fun x hx => ?_⟩
                                have := cuesI_ok hy1 x hx
                                unfold inI; omega
                              obtain ⟨Q, hQ⟩ : ∃ Q, Q = plays v 0 (cuesI y0) := ⟨_, rfl⟩
                              have hQl : Q.length = y0.length := by rw [hQ, plays_length, cuesI_length]
                              have eQ : plays v 0 (cuesI y) = Q ++ [tune] := by rw [ey, cuesI_snoc, plays_snoc, Int.toNat_natCast, hQ, hmv]
                              have hpy := fun H => c_plays_ok hsh.len hB h2.1 hv hY H
                              rw [eQ] at hpy
                              have hxQ : (Q ++ [tune])[Q.length]? = some tune := by simp
                              have hlQ : (Q ++ [tune]).length = Q.length + 1 := by simp
                              have hcl := cuesI_length y
                              refine IfB.mk (fun _ => ?_) (fun e => by cases e)
                              refine Ex.mk _ (jx_versions (r := version.toNat) (by omega) hv) ?_
                              refine Ex.mk _ rfl ?_
                              refine CallG.pure _ (fun H => hrd H) ?_
                              refine IfB.mk (fun e => by cases e) (fun _ => ?_)
                              refine CallG.pure _ (hpy) ?_
                              refine If.mk (fun _ => ?_) (fun h => absurd (by decide) h)
                              refine If.mk (fun _ => ?_) (fun h => absurd (by omega) h)
                              refine Side.mk (fits64 (by omega)) ?_
                              refine Ex.mk _ (jx_ints (r := Q.length) (by omega) hxQ) ?_
                              refine Ex.mk _ rfl ?_
                              refine If.mk (fun _ => ?_) (fun h => absurd (rfl) h)
                              refine CallG.pure _ (known_call) ?_
                              exact ⟨.inl rfl, FinG.mk _ rfl rfl rfl⟩
                            · refine IfB.mk (fun e => by cases e) (fun _ => ?_)
                              refine CallG.pure _ (known_call) ?_
                              exact ⟨.inl rfl, FinG.mk _ rfl rfl rfl⟩
                          · refine IfB.mk (fun e => by cases e) (fun _ => ?_)
                            refine CallG.pure _ (known_call) ?_
                            exact ⟨.inl rfl, FinG.mk _ rfl rfl rfl⟩
                · refine IfB.mk (fun _ => ?_) (fun e => by cases e)
                  refine CallG.pure _ (known_call) ?_
                  exact ⟨.inl rfl, FinG.mk _ rfl rfl rfl⟩
            · refine IfB.mk (fun _ => ?_) (fun e => by cases e)
              refine CallG.pure _ (known_call) ?_
              exact ⟨.inl rfl, FinG.mk _ rfl rfl rfl⟩
        · refine IfB.mk (fun _ => ?_) (fun e => by cases e)
          refine CallG.pure _ (known_call) ?_
          exact ⟨.inl rfl, FinG.mk _ rfl rfl rfl⟩
      · refine IfB.mk (fun _ => ?_) (fun e => by cases e)
        refine CallG.pure _ (known_call) ?_
        exact ⟨.inl rfl, FinG.mk _ rfl rfl rfl⟩
    · refine IfB.mk (fun _ => ?_) (fun e => by cases e)
      refine CallG.pure _ (known_call) ?_
      exact ⟨.inl rfl, FinG.mk _ rfl rfl rfl⟩
end Go.Vm

/-
  CueFenced: the row and its card. (Own work; printed by gen_law.py.)
-/

namespace Go.Proofs.YtdhdaadoehbopaaGreatDoor
open Go.Vm Go.ChangeShapes Go.WideShapes Go.ChangeAt Go.RowKit

set_option maxHeartbeats 8000000 in
set_option maxRecDepth 100000 in
theorem cueFenced_lifted (os : Os) (started : os.Started) (H : Type) (enc : TypeId × Value → H) :
    ReturnsInHanded {} Tryz.checked os 21 .any (fun w args => (Rows.cueFencedSpec.pre enc Tryz.prog Tryz.f21 Rows.cueFencedRow.domain false w args ∧ laidMetH Tryz.prog Rows.cueFencedRow.laid w) ∧ sizedMet enc Tryz.prog Tryz.f21 (OpenSpec.ofChange Rows.cueFencedSpec) false w args)
      (Rows.cueFencedSpec.post enc Tryz.prog Tryz.f21 false true false false) := by
  refine returnsInHanded_of_change_and (C := Tryz.checked) (X := fun w _ => laidMetH Tryz.prog Rows.cueFencedRow.laid w) (fun _ _ _ hh h => h.of_heap hh) own started (by kernel_rfl) Tryz.func21
    (ChangeSpec.witness_shaped (enc := enc) (C := Tryz.checked) (os := os) (X := fun w _ => laidMetH Tryz.prog Rows.cueFencedRow.laid w) false (World.laidAll Tryz.prog os Rows.cueFencedRow.laid) #[.agg #[.int .i64 0, .int .i64 0, .slice none 0 0], .int .i64 0, .int .i64 0, .slice none 0 0, .slice none 0 0] 8 (World.laidAll_os _ _ _)
      (World.shaped_of_ZipB (by kernel_rfl) (by kernel_rfl)) (by kernel_rfl) (by kernel_rfl) (by kernel_rfl)
      (by rw [MakeChecks.laidMetH_plain _ _ _ (by kernel_rfl)]; exact laidMet_laidAll _ (by kernel_rfl) (by kernel_rfl))) ?_
  intro W base args ds gs before hval0 hW _ _ _ _
  have hval : ∀ (j : Nat) t v, Tryz.f21.params[j]? = some t → args[j]? = some v → Value.okWide Tryz.prog W .any base t v := hval0
  have hW' := hW
  obtain ⟨p, q, hA0, hV, rfl, _, _⟩ := hW
  have hA : DataW.TrodAll enc Tryz.prog W 0 (fun _ => true) true Tryz.f21.params.toList args.toList ds p := hA0
  rw [Tryz.params21] at hA hval
  obtain ⟨v0, v1, v2, v3, v4, d0, d1, d2, d3, d4, p0, p1, p2, p3, p4, rfl, rfl, rfl, h0, h1, h2, h3, h4⟩ := trodAll_five hA
  obtain ⟨rfl, rfl⟩ := trodVars_none hV
  obtain ⟨x0, r0, _⟩ := arg_book (hval 0 24 v0 rfl rfl) h0
  obtain ⟨x1, r1, _⟩ := arg_int (hval 1 3 v1 rfl rfl) h1
  obtain ⟨x2, r2, _⟩ := arg_int (hval 2 3 v2 rfl rfl) h2
  obtain ⟨x3, r3, _⟩ := arg_ints (hval 3 25 v3 rfl rfl) h3
  obtain ⟨x4, r4, _⟩ := arg_ints (hval 4 25 v4 rfl rfl) h4
  refine (law_calls (c_cueFenced x0 x1 x2 x3 x4) (by simp only [VRels, and_true]; exact ⟨r0, r1, r2, r3, r4⟩)).mono ?_
  rintro e W' ⟨rfl, hk⟩
  exact ⟨_, rfl, law_post laidOut (by kernel_rfl) (by kernel_rfl) (by kernel_rfl) hW' rfl rfl hk⟩

theorem cueFenced_named : Tryz.pinned.checked.prog.funcNamed Rows.cueFencedRow.func = some 21 := by kernel_rfl
theorem cueFenced_inst : Tryz.f21.isInstance Tryz.pinned.checked.prog Rows.cueFencedRow.origin Rows.cueFencedRow.targs := of_decide_eq_true (by kernel_rfl)
theorem cueFenced_wrap : Tryz.f21.isWrapper Tryz.pinned.checked.prog Rows.cueFencedRow.wrapper Rows.cueFencedRow.mainSum := by unfold Func.isWrapper; first | (rw [if_pos (by decide +kernel)]; kernel_rfl) | (rw [if_neg (by decide +kernel)]; exact ⟨rfl, rfl⟩)
set_option maxHeartbeats 8000000 in
theorem cueFenced_closed : joinedFacts Tryz.pinned.checked.prog 21 Tryz.f21 Rows.cueFencedSpec Rows.cueFencedRow = true := by
  unfold joinedFacts
  refine and_t (and_t (and_t (and_t (and_t (and_t (and_t (and_t (and_t (and_t (and_t (and_t (and_t (and_t (and_t (and_t (and_t (and_t (and_t (and_t (and_t (and_t (and_t (and_t (and_t (and_t (and_t (and_t (and_t (and_t (and_t ?_ ?_) ?_) ?_) ?_) ?_) ?_) ?_) ?_) ?_) ?_) ?_) ?_) ?_) ?_) ?_) ?_) ?_) ?_) ?_) ?_) ?_) ?_) ?_) ?_) ?_) ?_) ?_) ?_) ?_) ?_) ?_
  · as_aux_lemma => kernel_rfl
  · as_aux_lemma => kernel_rfl
  · as_aux_lemma => kernel_rfl
  · as_aux_lemma => kernel_rfl
  · as_aux_lemma => kernel_rfl
  · as_aux_lemma => kernel_rfl
  · as_aux_lemma => kernel_rfl
  · as_aux_lemma => kernel_rfl
  · as_aux_lemma => kernel_rfl
  · as_aux_lemma => kernel_rfl
  · as_aux_lemma => kernel_rfl
  · as_aux_lemma => kernel_rfl
  · as_aux_lemma => kernel_rfl
  · as_aux_lemma => kernel_rfl
  · as_aux_lemma => kernel_rfl
  · as_aux_lemma => kernel_rfl
  · as_aux_lemma => kernel_rfl
  · as_aux_lemma => kernel_rfl
  · as_aux_lemma => kernel_rfl
  · as_aux_lemma => kernel_rfl
  · as_aux_lemma => kernel_rfl
  · as_aux_lemma => kernel_rfl
  · as_aux_lemma => kernel_rfl
  · as_aux_lemma => kernel_rfl
  · as_aux_lemma => kernel_rfl
  · as_aux_lemma => kernel_rfl
  · as_aux_lemma => kernel_rfl
  · as_aux_lemma => kernel_rfl
  · as_aux_lemma => kernel_rfl
  · as_aux_lemma => kernel_rfl
  · as_aux_lemma => kernel_rfl
  · as_aux_lemma => kernel_rfl

theorem cueFenced_holds : Rows.CueFencedSaid :=
  OpenClaim.holds_of_wide 21 Tryz.f21 rfl rfl rfl rfl rfl rfl rfl ⟨rfl, rfl, rfl, rfl, rfl⟩ rfl rfl rfl rfl rfl cueFenced_named Tryz.func21 cueFenced_closed cueFenced_inst cueFenced_wrap
    (fun os started H enc _ => cueFenced_lifted os started H enc)

set_option maxHeartbeats 8000000 in
theorem cueFenced_card : Rows.CueFencedCardSaid :=
  Claim7.holds_tied_plain_at .later [] [.data, .data, .data, .data, .pinned] true (true, "d200c2f9484011b2fecf6d987098eee6f4d6857560912b686a09e1298a9b974d") true cueFenced_holds (fun _ h => by cases h) (by as_aux_lemma => kernel_rfl) (fun _ h => by cases h) cueFenced_row_tie rfl ⟨rfl, rfl⟩ (by as_aux_lemma => kernel_rfl) rfl
    (fun f fn hf hfn => by
      obtain rfl : f = 21 := Option.some.inj (cueFenced_named.symm.trans hf) |>.symm
      obtain rfl : fn = Tryz.f21 := (Option.some.inj (Tryz.func21.symm.trans hfn)).symm
      exact ⟨by as_aux_lemma => kernel_rfl, fun j t ht => by
        rw [Tryz.params21] at ht
        have hm : t ∈ [24, 3, 3, 25, 25] := by simpa using Array.mem_of_getElem? ht
        have hall : ([24, 3, 3, 25, 25].all fun u => !Tryz.prog.wantsStandIn u) = true := by kernel_rfl
        exact (show Tryz.prog.wantsStandIn t = false by simpa using List.all_eq_true.1 hall t hm)⟩)
    (by as_aux_lemma => kernel_rfl)
end Go.Proofs.YtdhdaadoehbopaaGreatDoor
